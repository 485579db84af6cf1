/- What the functions of this claim compute, each shown by the kernel, and what that comes to, with no program in sight. No condition. -/
import Derived.Test.YtefekolpfklhdaaProg
import Derived.Test.YtefekolpfklhdaaAmc
import Derived.KernelRfl
import Derived.Shelf.Sort.Plain
import Derived.Shelf.Slices.In.SortNone
import Derived.Shelf.Slices.CompactI
import Derived.Test.YtefekolpfklhdaaAmd
set_option maxRecDepth 2000
set_option linter.unusedVariables false
set_option linter.unusedSimpArgs false
section
/- What the functions' contracts share. -/
namespace Go.Proofs.Ytefekolpfklhdaa
theorem Try.follows : Try.prog.follows .mixedOrders = true := by kernel_rfl
end Go.Proofs.Ytefekolpfklhdaa
end

section
/- What function 69 (slipway/page.Newer) computes, by the kernel. -/
open Go Go.Proofs.AM
namespace Go.Proofs.Ytefekolpfklhdaa

noncomputable def m69 (x : (Int × (Int × (Int × Int))) × (Int × (Int × (Int × Int))) × Unit) : Option (Bool × Unit) :=
  bif (!(decide (x.1.2.2.1 = x.2.1.2.2.1))) then
    (some ((decide (x.1.2.2.1 > x.2.1.2.2.1)), ()))
  else
    (some ((decide (x.1.2.2.2 < x.2.1.2.2.2)), ()))

noncomputable def r69 : PDen [(true, (.pair (.int .i64) (.pair (.int .i64) (.pair (.int .i64) (.int .i64))))), (true, (.pair (.int .i64) (.pair (.int .i64) (.pair (.int .i64) (.int .i64)))))] → Option (PDen [(false, .bool)]) := fun x => afun Try.prog (envOf [] [] [] []) ⟨[], []⟩ Try.f69 [(true, (.pair (.int .i64) (.pair (.int .i64) (.pair (.int .i64) (.int .i64))))), (true, (.pair (.int .i64) (.pair (.int .i64) (.pair (.int .i64) (.int .i64)))))] [(false, .bool)] false x
theorem r69_eq : r69 = m69 := by kernel_rfl

theorem c69 : CS.Sound Try.prog 69 ⟨[(true, (.pair (.int .i64) (.pair (.int .i64) (.pair (.int .i64) (.int .i64))))), (true, (.pair (.int .i64) (.pair (.int .i64) (.pair (.int .i64) (.int .i64)))))], [(false, .bool)], false, m69⟩ := afun_sound' (envOf_sound (CSs.nil) (HDs.nil) (IDs.nil)) rfl Try.follows (f := 69) (fn := Try.f69) Try.func69 (by kernel_rfl) (by kernel_rfl) r69_eq
end Go.Proofs.Ytefekolpfklhdaa
end

section
/- What function 40 (slipway/scan.before) computes, by the kernel. -/
open Go Go.Proofs.AM
namespace Go.Proofs.Ytefekolpfklhdaa

noncomputable def m40 (x : ((Int × Int) × (Int × (Int × (Int × Int)))) × ((Int × Int) × (Int × (Int × (Int × Int)))) × Unit) : Option (Bool × Unit) :=
  Option.bind (m69 (x.1.2, (x.2.1.2, ()))) fun (y1 : (Bool × Unit)) =>
  bif y1.1 then
    (some (true, ()))
  else
    (Option.bind (m69 (x.2.1.2, (x.1.2, ()))) fun (y2 : (Bool × Unit)) =>
    bif y2.1 then
      (some (false, ()))
    else
      (bif (!(decide (x.1.1.1 = x.2.1.1.1))) then
        (some ((decide (x.1.1.1 < x.2.1.1.1)), ()))
      else
        (some ((decide (x.1.1.2 < x.2.1.1.2)), ()))))

noncomputable def r40 : PDen [(true, (.pair (.pair (.int .i64) (.int .i64)) (.pair (.int .i64) (.pair (.int .i64) (.pair (.int .i64) (.int .i64)))))), (true, (.pair (.pair (.int .i64) (.int .i64)) (.pair (.int .i64) (.pair (.int .i64) (.pair (.int .i64) (.int .i64))))))] → Option (PDen [(false, .bool)]) := fun x => afun Try.prog (envOf [(69, ⟨[(true, (.pair (.int .i64) (.pair (.int .i64) (.pair (.int .i64) (.int .i64))))), (true, (.pair (.int .i64) (.pair (.int .i64) (.pair (.int .i64) (.int .i64)))))], [(false, .bool)], false, m69⟩)] [] [] []) ⟨[], []⟩ Try.f40 [(true, (.pair (.pair (.int .i64) (.int .i64)) (.pair (.int .i64) (.pair (.int .i64) (.pair (.int .i64) (.int .i64)))))), (true, (.pair (.pair (.int .i64) (.int .i64)) (.pair (.int .i64) (.pair (.int .i64) (.pair (.int .i64) (.int .i64))))))] [(false, .bool)] false x
theorem r40_eq : r40 = m40 := by kernel_rfl

theorem c40 : CS.Sound Try.prog 40 ⟨[(true, (.pair (.pair (.int .i64) (.int .i64)) (.pair (.int .i64) (.pair (.int .i64) (.pair (.int .i64) (.int .i64)))))), (true, (.pair (.pair (.int .i64) (.int .i64)) (.pair (.int .i64) (.pair (.int .i64) (.pair (.int .i64) (.int .i64))))))], [(false, .bool)], false, m40⟩ := afun_sound' (envOf_sound (CSs.cons c69 (CSs.nil)) (HDs.nil) (IDs.nil)) rfl Try.follows (f := 40) (fn := Try.f40) Try.func40 (by kernel_rfl) (by kernel_rfl) r40_eq
end Go.Proofs.Ytefekolpfklhdaa
end

section
/- What function 42 (slipway/scan.none) computes, by the kernel. -/
open Go Go.Proofs.AM
namespace Go.Proofs.Ytefekolpfklhdaa

noncomputable def m42 (x : Unit) : Option ((Int × Int) × Unit) :=
  some (((-1 : Int), (0 : Int)), ())

noncomputable def r42 : PDen [] → Option (PDen [(true, (.pair (.int .i64) (.int .i64)))]) := fun x => afun Try.prog (envOf [] [] [] []) ⟨[], []⟩ Try.f42 [] [(true, (.pair (.int .i64) (.int .i64)))] false x
theorem r42_eq : r42 = m42 := by kernel_rfl

theorem c42 : CS.Sound Try.prog 42 ⟨[], [(true, (.pair (.int .i64) (.int .i64)))], false, m42⟩ := afun_sound' (envOf_sound (CSs.nil) (HDs.nil) (IDs.nil)) rfl Try.follows (f := 42) (fn := Try.f42) Try.func42 (by kernel_rfl) (by kernel_rfl) r42_eq
end Go.Proofs.Ytefekolpfklhdaa
end

section
/- What function 46 (slipway/page.Check) computes, by the kernel. -/
open Go Go.Proofs.AM
namespace Go.Proofs.Ytefekolpfklhdaa

noncomputable def m46 (x : (Int × (Int × (Int × Int))) × Unit) : Option (Int × Unit) :=
  bif (!(decide (x.1.1 = (1 : Int)))) then
    (bif (!(decide (x.1.1 = (2 : Int)))) then
      (bif (!(decide (x.1.1 = (3 : Int)))) then
        (some ((30 : Int), ()))
      else
        (bif (decide (x.1.2.2.2 < x.1.2.2.1)) then
          (some ((30 : Int), ()))
        else
          (bif (decide (x.1.2.2.2 > (1152921504606846976 : Int))) then
            (some ((30 : Int), ()))
          else
            (bif (!(decide (x.1.1 = (1 : Int)))) then
              (bif (!(decide (x.1.2.2.2 = x.1.2.2.1))) then
                (some ((30 : Int), ()))
              else
                (bif (decide (x.1.2.1 < (0 : Int))) then
                  (some ((30 : Int), ()))
                else
                  (bif (decide (x.1.2.1 ≥ (1048576 : Int))) then
                    (some ((30 : Int), ()))
                  else
                    (bif (decide (x.1.2.2.1 < (1 : Int))) then
                      (some ((30 : Int), ()))
                    else
                      (bif (decide (x.1.2.2.1 > (1152921504606846976 : Int))) then
                        (some ((30 : Int), ()))
                      else
                        (some ((0 : Int), ())))))))
            else
              (bif (decide (x.1.2.1 < (0 : Int))) then
                (some ((30 : Int), ()))
              else
                (bif (decide (x.1.2.1 ≥ (1048576 : Int))) then
                  (some ((30 : Int), ()))
                else
                  (bif (decide (x.1.2.2.1 < (1 : Int))) then
                    (some ((30 : Int), ()))
                  else
                    (bif (decide (x.1.2.2.1 > (1152921504606846976 : Int))) then
                      (some ((30 : Int), ()))
                    else
                      (some ((0 : Int), ()))))))))))
    else
      (bif (decide (x.1.2.2.2 < x.1.2.2.1)) then
        (some ((30 : Int), ()))
      else
        (bif (decide (x.1.2.2.2 > (1152921504606846976 : Int))) then
          (some ((30 : Int), ()))
        else
          (bif (!(decide (x.1.1 = (1 : Int)))) then
            (bif (!(decide (x.1.2.2.2 = x.1.2.2.1))) then
              (some ((30 : Int), ()))
            else
              (bif (decide (x.1.2.1 < (0 : Int))) then
                (some ((30 : Int), ()))
              else
                (bif (decide (x.1.2.1 ≥ (1048576 : Int))) then
                  (some ((30 : Int), ()))
                else
                  (bif (decide (x.1.2.2.1 < (1 : Int))) then
                    (some ((30 : Int), ()))
                  else
                    (bif (decide (x.1.2.2.1 > (1152921504606846976 : Int))) then
                      (some ((30 : Int), ()))
                    else
                      (some ((0 : Int), ())))))))
          else
            (bif (decide (x.1.2.1 < (0 : Int))) then
              (some ((30 : Int), ()))
            else
              (bif (decide (x.1.2.1 ≥ (1048576 : Int))) then
                (some ((30 : Int), ()))
              else
                (bif (decide (x.1.2.2.1 < (1 : Int))) then
                  (some ((30 : Int), ()))
                else
                  (bif (decide (x.1.2.2.1 > (1152921504606846976 : Int))) then
                    (some ((30 : Int), ()))
                  else
                    (some ((0 : Int), ()))))))))))
  else
    (bif (decide (x.1.2.2.2 < x.1.2.2.1)) then
      (some ((30 : Int), ()))
    else
      (bif (decide (x.1.2.2.2 > (1152921504606846976 : Int))) then
        (some ((30 : Int), ()))
      else
        (bif (!(decide (x.1.1 = (1 : Int)))) then
          (bif (!(decide (x.1.2.2.2 = x.1.2.2.1))) then
            (some ((30 : Int), ()))
          else
            (bif (decide (x.1.2.1 < (0 : Int))) then
              (some ((30 : Int), ()))
            else
              (bif (decide (x.1.2.1 ≥ (1048576 : Int))) then
                (some ((30 : Int), ()))
              else
                (bif (decide (x.1.2.2.1 < (1 : Int))) then
                  (some ((30 : Int), ()))
                else
                  (bif (decide (x.1.2.2.1 > (1152921504606846976 : Int))) then
                    (some ((30 : Int), ()))
                  else
                    (some ((0 : Int), ())))))))
        else
          (bif (decide (x.1.2.1 < (0 : Int))) then
            (some ((30 : Int), ()))
          else
            (bif (decide (x.1.2.1 ≥ (1048576 : Int))) then
              (some ((30 : Int), ()))
            else
              (bif (decide (x.1.2.2.1 < (1 : Int))) then
                (some ((30 : Int), ()))
              else
                (bif (decide (x.1.2.2.1 > (1152921504606846976 : Int))) then
                  (some ((30 : Int), ()))
                else
                  (some ((0 : Int), ())))))))))

noncomputable def r46 : PDen [(true, (.pair (.int .i64) (.pair (.int .i64) (.pair (.int .i64) (.int .i64)))))] → Option (PDen [(false, (.int .i64))]) := fun x => afun Try.prog (envOf [] [] [] []) ⟨[], []⟩ Try.f46 [(true, (.pair (.int .i64) (.pair (.int .i64) (.pair (.int .i64) (.int .i64)))))] [(false, (.int .i64))] false x
theorem r46_eq : r46 = m46 := by kernel_rfl

theorem c46 : CS.Sound Try.prog 46 ⟨[(true, (.pair (.int .i64) (.pair (.int .i64) (.pair (.int .i64) (.int .i64)))))], [(false, (.int .i64))], false, m46⟩ := afun_sound' (envOf_sound (CSs.nil) (HDs.nil) (IDs.nil)) rfl Try.follows (f := 46) (fn := Try.f46) Try.func46 (by kernel_rfl) (by kernel_rfl) r46_eq
end Go.Proofs.Ytefekolpfklhdaa
end

section
/- What function 48 (slipway/scan.inRange) computes, by the kernel. -/
open Go Go.Proofs.AM
namespace Go.Proofs.Ytefekolpfklhdaa

noncomputable def m48 (x : Int × Int × Int × Unit) : Option (Bool × Unit) :=
  bif (decide (x.1 ≥ x.2.1)) then
    (some ((decide (x.1 ≤ x.2.2.1)), ()))
  else
    (some (false, ()))

noncomputable def r48 : PDen [(false, (.int .i64)), (false, (.int .i64)), (false, (.int .i64))] → Option (PDen [(false, .bool)]) := fun x => afun Try.prog (envOf [] [] [] []) ⟨[], []⟩ Try.f48 [(false, (.int .i64)), (false, (.int .i64)), (false, (.int .i64))] [(false, .bool)] false x
theorem r48_eq : r48 = m48 := by kernel_rfl

theorem c48 : CS.Sound Try.prog 48 ⟨[(false, (.int .i64)), (false, (.int .i64)), (false, (.int .i64))], [(false, .bool)], false, m48⟩ := afun_sound' (envOf_sound (CSs.nil) (HDs.nil) (IDs.nil)) rfl Try.follows (f := 48) (fn := Try.f48) Try.func48 (by kernel_rfl) (by kernel_rfl) r48_eq
end Go.Proofs.Ytefekolpfklhdaa
end

section
/- What function 68 (slipway/scan.counts) computes, by the kernel. -/
open Go Go.Proofs.AM
namespace Go.Proofs.Ytefekolpfklhdaa

noncomputable def m68 (x : Int × ((Int × Int) × (Int × (Int × (Int × Int)))) × Unit) : Option (Bool × Unit) :=
  Option.bind (m46 (x.2.1.2, ())) fun (y1 : (Int × Unit)) =>
  bif (decide (y1.1 = (0 : Int))) then
    (bif (!(decide (x.2.1.2.1 = (3 : Int)))) then
      (Option.bind (m48 (x.2.1.1.1, ((0 : Int), ((255 : Int), ())))) fun (y2 : (Bool × Unit)) =>
      bif y2.1 then
        (Option.bind (m48 (x.2.1.1.2, ((0 : Int), ((Go.IntKind.wrap .i64 (x.1 - (1 : Int))), ())))) fun (y3 : (Bool × Unit)) =>
        some (y3.1, ()))
      else
        (some (false, ())))
    else
      (some (false, ())))
  else
    (some (false, ()))

noncomputable def r68 : PDen [(false, (.int .i64)), (true, (.pair (.pair (.int .i64) (.int .i64)) (.pair (.int .i64) (.pair (.int .i64) (.pair (.int .i64) (.int .i64))))))] → Option (PDen [(false, .bool)]) := fun x => afun Try.prog (envOf [(46, ⟨[(true, (.pair (.int .i64) (.pair (.int .i64) (.pair (.int .i64) (.int .i64)))))], [(false, (.int .i64))], false, m46⟩), (48, ⟨[(false, (.int .i64)), (false, (.int .i64)), (false, (.int .i64))], [(false, .bool)], false, m48⟩)] [] [] []) ⟨[], []⟩ Try.f68 [(false, (.int .i64)), (true, (.pair (.pair (.int .i64) (.int .i64)) (.pair (.int .i64) (.pair (.int .i64) (.pair (.int .i64) (.int .i64))))))] [(false, .bool)] false x
theorem r68_eq : r68 = m68 := by kernel_rfl

theorem c68 : CS.Sound Try.prog 68 ⟨[(false, (.int .i64)), (true, (.pair (.pair (.int .i64) (.int .i64)) (.pair (.int .i64) (.pair (.int .i64) (.pair (.int .i64) (.int .i64))))))], [(false, .bool)], false, m68⟩ := afun_sound' (envOf_sound (CSs.cons c46 (CSs.cons c48 (CSs.nil))) (HDs.nil) (IDs.nil)) rfl Try.follows (f := 68) (fn := Try.f68) Try.func68 (by kernel_rfl) (by kernel_rfl) r68_eq
end Go.Proofs.Ytefekolpfklhdaa
end

section
/- What function 88 (math/bits.Mul32) computes, by the kernel. -/
open Go Go.Proofs.AM
namespace Go.Proofs.Ytefekolpfklhdaa

noncomputable def m88 (x : Int × Int × Unit) : Option (Int × (Int × Unit)) :=
  some ((Go.IntKind.wrap .u32 (ishr .u64 (Go.IntKind.wrap .u64 ((Go.IntKind.wrap .u64 x.1) * (Go.IntKind.wrap .u64 x.2.1))) (32 : Int))), ((Go.IntKind.wrap .u32 (Go.IntKind.wrap .u64 ((Go.IntKind.wrap .u64 x.1) * (Go.IntKind.wrap .u64 x.2.1)))), ()))

noncomputable def r88 : PDen [(false, (.int .u32)), (false, (.int .u32))] → Option (PDen [(false, (.int .u32)), (false, (.int .u32))]) := fun x => afun Try.prog (envOf [] [] [] []) ⟨[], []⟩ Try.f88 [(false, (.int .u32)), (false, (.int .u32))] [(false, (.int .u32)), (false, (.int .u32))] false x
theorem r88_eq : r88 = m88 := by kernel_rfl

theorem c88 : CS.Sound Try.prog 88 ⟨[(false, (.int .u32)), (false, (.int .u32))], [(false, (.int .u32)), (false, (.int .u32))], false, m88⟩ := afun_sound' (envOf_sound (CSs.nil) (HDs.nil) (IDs.nil)) rfl Try.follows (f := 88) (fn := Try.f88) Try.func88 (by kernel_rfl) (by kernel_rfl) r88_eq
end Go.Proofs.Ytefekolpfklhdaa
end

section
/- What function 89 (math/bits.Mul64) computes, by the kernel. -/
open Go Go.Proofs.AM
namespace Go.Proofs.Ytefekolpfklhdaa

noncomputable def m89 (x : Int × Int × Unit) : Option (Int × (Int × Unit)) :=
  some ((Go.IntKind.wrap .u64 ((Go.IntKind.wrap .u64 ((Go.IntKind.wrap .u64 ((ishr .u64 x.1 (32 : Int)) * (ishr .u64 x.2.1 (32 : Int)))) + (ishr .u64 (Go.IntKind.wrap .u64 ((Go.IntKind.wrap .u64 ((ishr .u64 x.1 (32 : Int)) * (iand .u64 x.2.1 (4294967295 : Int)))) + (ishr .u64 (Go.IntKind.wrap .u64 ((iand .u64 x.1 (4294967295 : Int)) * (iand .u64 x.2.1 (4294967295 : Int)))) (32 : Int)))) (32 : Int)))) + (ishr .u64 (Go.IntKind.wrap .u64 ((iand .u64 (Go.IntKind.wrap .u64 ((Go.IntKind.wrap .u64 ((ishr .u64 x.1 (32 : Int)) * (iand .u64 x.2.1 (4294967295 : Int)))) + (ishr .u64 (Go.IntKind.wrap .u64 ((iand .u64 x.1 (4294967295 : Int)) * (iand .u64 x.2.1 (4294967295 : Int)))) (32 : Int)))) (4294967295 : Int)) + (Go.IntKind.wrap .u64 ((iand .u64 x.1 (4294967295 : Int)) * (ishr .u64 x.2.1 (32 : Int)))))) (32 : Int)))), ((Go.IntKind.wrap .u64 (x.1 * x.2.1)), ()))

noncomputable def r89 : PDen [(false, (.int .u64)), (false, (.int .u64))] → Option (PDen [(false, (.int .u64)), (false, (.int .u64))]) := fun x => afun Try.prog (envOf [] [] [] []) ⟨[], []⟩ Try.f89 [(false, (.int .u64)), (false, (.int .u64))] [(false, (.int .u64)), (false, (.int .u64))] false x
theorem r89_eq : r89 = m89 := by kernel_rfl

theorem c89 : CS.Sound Try.prog 89 ⟨[(false, (.int .u64)), (false, (.int .u64))], [(false, (.int .u64)), (false, (.int .u64))], false, m89⟩ := afun_sound' (envOf_sound (CSs.nil) (HDs.nil) (IDs.nil)) rfl Try.follows (f := 89) (fn := Try.f89) Try.func89 (by kernel_rfl) (by kernel_rfl) r89_eq
end Go.Proofs.Ytefekolpfklhdaa
end

section
/- What function 70 (math/bits.Mul) computes, by the kernel. -/
open Go Go.Proofs.AM
namespace Go.Proofs.Ytefekolpfklhdaa

noncomputable def m70 (x : Int × Int × Unit) : Option (Int × (Int × Unit)) :=
  Option.bind (m89 (x.1, (x.2.1, ()))) fun (y1 : (Int × (Int × Unit))) =>
  some (y1.1, (y1.2.1, ()))

noncomputable def r70 : PDen [(false, (.int .u64)), (false, (.int .u64))] → Option (PDen [(false, (.int .u64)), (false, (.int .u64))]) := fun x => afun Try.prog (envOf [(88, ⟨[(false, (.int .u32)), (false, (.int .u32))], [(false, (.int .u32)), (false, (.int .u32))], false, m88⟩), (89, ⟨[(false, (.int .u64)), (false, (.int .u64))], [(false, (.int .u64)), (false, (.int .u64))], false, m89⟩)] [] [] []) ⟨[], []⟩ Try.f70 [(false, (.int .u64)), (false, (.int .u64))] [(false, (.int .u64)), (false, (.int .u64))] false x
theorem r70_eq : r70 = m70 := by kernel_rfl

theorem c70 : CS.Sound Try.prog 70 ⟨[(false, (.int .u64)), (false, (.int .u64))], [(false, (.int .u64)), (false, (.int .u64))], false, m70⟩ := afun_sound' (envOf_sound (CSs.cons c88 (CSs.cons c89 (CSs.nil))) (HDs.nil) (IDs.nil)) rfl Try.follows (f := 70) (fn := Try.f70) Try.func70 (by kernel_rfl) (by kernel_rfl) r70_eq
end Go.Proofs.Ytefekolpfklhdaa
end

section
/- What function 66 (slices.Repeat(()int,int)) computes, by the kernel. -/
open Go Go.Proofs.AM
namespace Go.Proofs.Ytefekolpfklhdaa

noncomputable def m66 (x : (List Int) × Int × Unit) : Option (List Int) :=
  bif (decide (x.2.1 < (0 : Int))) then
    (none)
  else
    (Option.bind (m70 ((Go.IntKind.wrap .u64 (((List.length x.1) : Nat) : Int)), ((Go.IntKind.wrap .u64 x.2.1), ()))) fun (y1 : (Int × (Int × Unit))) =>
    bif (decide (y1.1 > (0 : Int))) then
      (none)
    else
      (bif (decide (y1.2.1 > (9223372036854775807 : Int))) then
        (none)
      else
        (gd ((0 : Int) ≤ (Go.IntKind.wrap .i64 y1.2.1)) (gd ((Go.IntKind.wrap .i64 y1.2.1) ≤ (Go.IntKind.wrap .i64 y1.2.1)) (gd (((Go.IntKind.wrap .i64 y1.2.1) * (8 : Int)) ≤ (140737488355328 : Int)) (Option.bind (loopM (X := (Int × (List Int))) (E := (List Int)) (fun (x2 : (Int × (List Int))) =>
                  bif (decide (x2.1 < (((List.length x2.2) : Nat) : Int))) then
                    (gd ((0 : Int) ≤ x2.1) (gd (x2.1 ≤ (((List.length x2.2) : Nat) : Int)) (gd ((((List.length x2.2) : Nat) : Int) ≤ (((List.length x2.2) : Nat) : Int)) (gd ((0 : Int) ≤ x2.1) (gd (x2.1 ≤ (((List.length x2.2) : Nat) : Int)) (some (Sum.inl ((Go.IntKind.wrap .i64 (x2.1 + (((min (List.length (List.take ((Int.toNat x2.1) - (Int.toNat (0 : Int))) (List.drop (Int.toNat (0 : Int)) x2.2))) ((Int.toNat (((List.length x2.2) : Nat) : Int)) - (Int.toNat x2.1))) : Nat) : Int))), (((List.take (Int.toNat x2.1) x2.2) ++ (List.take ((Int.toNat (((List.length x2.2) : Nat) : Int)) - (Int.toNat x2.1)) (List.take ((Int.toNat x2.1) - (Int.toNat (0 : Int))) (List.drop (Int.toNat (0 : Int)) x2.2)))) ++ (List.drop ((Int.toNat x2.1) + (min (List.length (List.take ((Int.toNat x2.1) - (Int.toNat (0 : Int))) (List.drop (Int.toNat (0 : Int)) x2.2))) ((Int.toNat (((List.length x2.2) : Nat) : Int)) - (Int.toNat x2.1)))) x2.2))))))))))
                  else
                    (some (Sum.inr x2.2))) ((((min (List.length x.1) (List.length (List.replicate (Int.toNat (Go.IntKind.wrap .i64 y1.2.1)) (0 : Int)))) : Nat) : Int), ((List.take (List.length (List.replicate (Int.toNat (Go.IntKind.wrap .i64 y1.2.1)) (0 : Int))) x.1) ++ (List.drop (List.length x.1) (List.replicate (Int.toNat (Go.IntKind.wrap .i64 y1.2.1)) (0 : Int)))))) fun (y2 : (List Int)) =>
              some y2))))))

noncomputable def r66 : PDen [(false, (.sl (.int .i64))), (false, (.int .i64))] → Option (List (K.den (.int .i64))) := fun x => afunO Try.prog (envOf [(70, ⟨[(false, (.int .u64)), (false, (.int .u64))], [(false, (.int .u64)), (false, (.int .u64))], false, m70⟩)] [] [] []) ⟨[(0, ⟨[.slot 8 (.d false (.int .i64) true), .vec 0 3 (.int .i64) true], [], [(some 0, [.vec 0 3 (.int .i64) true])], none⟩)], []⟩ Try.f66 [(false, (.sl (.int .i64))), (false, (.int .i64))] 3 (.int .i64) false x
theorem r66_eq : r66 = m66 := by kernel_rfl

theorem c66 : OS.Sound Try.prog 66 ⟨[(false, (.sl (.int .i64))), (false, (.int .i64))], 3, (.int .i64), false, m66⟩ := afunO_sound' (envOf_sound (CSs.cons c70 (CSs.nil)) (HDs.nil) (IDs.nil)) rfl Try.follows (f := 66) (fn := Try.f66) Try.func66 (by kernel_rfl) (by kernel_rfl) r66_eq
end Go.Proofs.Ytefekolpfklhdaa
end

section
/- What function 38 (slipway/plan.New) computes, by the kernel. -/
open Go Go.Proofs.AM
namespace Go.Proofs.Ytefekolpfklhdaa

noncomputable def m38 (x : Int × Int × Int × Unit) : Option ((Int × (Int × (Int × ((List Int) × ((List Bool) × ((Int × (Int × Int)) × (List (Int × (List Int))))))))) × (Int × Unit)) :=
  bif (decide (x.1 < (4 : Int))) then
    (some (((0 : Int), ((0 : Int), ((0 : Int), (([] : List Int), (([] : List Bool), (((0 : Int), ((0 : Int), (0 : Int))), ([] : List (Int × (List Int))))))))), ((1 : Int), ())))
  else
    (bif (decide (x.1 > (32 : Int))) then
      (some (((0 : Int), ((0 : Int), ((0 : Int), (([] : List Int), (([] : List Bool), (((0 : Int), ((0 : Int), (0 : Int))), ([] : List (Int × (List Int))))))))), ((1 : Int), ())))
    else
      (bif (decide (x.2.1 < (1 : Int))) then
        (some (((0 : Int), ((0 : Int), ((0 : Int), (([] : List Int), (([] : List Bool), (((0 : Int), ((0 : Int), (0 : Int))), ([] : List (Int × (List Int))))))))), ((1 : Int), ())))
      else
        (bif (decide (x.2.1 > (256 : Int))) then
          (some (((0 : Int), ((0 : Int), ((0 : Int), (([] : List Int), (([] : List Bool), (((0 : Int), ((0 : Int), (0 : Int))), ([] : List (Int × (List Int))))))))), ((1 : Int), ())))
        else
          (bif (decide (x.2.2.1 < (1 : Int))) then
            (some (((0 : Int), ((0 : Int), ((0 : Int), (([] : List Int), (([] : List Bool), (((0 : Int), ((0 : Int), (0 : Int))), ([] : List (Int × (List Int))))))))), ((1 : Int), ())))
          else
            (bif (decide (x.2.2.1 > (8 : Int))) then
              (some (((0 : Int), ((0 : Int), ((0 : Int), (([] : List Int), (([] : List Bool), (((0 : Int), ((0 : Int), (0 : Int))), ([] : List (Int × (List Int))))))))), ((1 : Int), ())))
            else
              (Option.bind (m66 (((-1 : Int) :: ([] : List Int)), (x.2.1, ()))) fun (y1 : (List Int)) =>
              gd ((0 : Int) ≤ (Go.IntKind.wrap .i64 (x.2.1 * x.1))) (gd ((Go.IntKind.wrap .i64 (x.2.1 * x.1)) ≤ (Go.IntKind.wrap .i64 (x.2.1 * x.1))) (gd (((Go.IntKind.wrap .i64 (x.2.1 * x.1)) * (1 : Int)) ≤ (140737488355328 : Int)) (some ((x.1, (x.2.1, (x.2.2.1, (y1, ((List.replicate (Int.toNat (Go.IntKind.wrap .i64 (x.2.1 * x.1))) false), (((-1 : Int), ((0 : Int), (0 : Int))), ([] : List (Int × (List Int))))))))), ((0 : Int), ())))))))))))

noncomputable def r38 : PDen [(false, (.int .i64)), (false, (.int .i64)), (false, (.int .i64))] → Option (PDen [(true, (.pair (.int .i64) (.pair (.int .i64) (.pair (.int .i64) (.pair (.sl (.int .i64)) (.pair (.sl .bool) (.pair (.pair (.int .i64) (.pair (.int .i64) (.int .i64))) (.sl (.pair (.int .i64) (.sl (.int .i64))))))))))), (false, (.int .i64))]) := fun x => afunM Try.prog (envOf [] [(66, OS.hd ⟨[(false, (.sl (.int .i64))), (false, (.int .i64))], 3, (.int .i64), false, m66⟩)] [] []) ⟨[], []⟩ Try.f38 [(false, (.int .i64)), (false, (.int .i64)), (false, (.int .i64))] [(true, (.pair (.int .i64) (.pair (.int .i64) (.pair (.int .i64) (.pair (.sl (.int .i64)) (.pair (.sl .bool) (.pair (.pair (.int .i64) (.pair (.int .i64) (.int .i64))) (.sl (.pair (.int .i64) (.sl (.int .i64))))))))))), (false, (.int .i64))] [(.p .d (.p .d (.p .d (.p (.s 3) (.p (.s 4) .d))))), .d] false x
theorem r38_eq : r38 = m38 := by kernel_rfl

theorem c38 : OM.Sound Try.prog 38 ⟨[(false, (.int .i64)), (false, (.int .i64)), (false, (.int .i64))], [(true, (.pair (.int .i64) (.pair (.int .i64) (.pair (.int .i64) (.pair (.sl (.int .i64)) (.pair (.sl .bool) (.pair (.pair (.int .i64) (.pair (.int .i64) (.int .i64))) (.sl (.pair (.int .i64) (.sl (.int .i64))))))))))), (false, (.int .i64))], [(.p .d (.p .d (.p .d (.p (.s 3) (.p (.s 4) .d))))), .d], false, m38⟩ := afunM_sound' (envOf_sound (CSs.nil) (HDs.cons (OS.Sound.hd c66) (HDs.nil)) (IDs.nil)) rfl Try.follows (f := 38) (fn := Try.f38) Try.func38 (by kernel_rfl) (by kernel_rfl) r38_eq
end Go.Proofs.Ytefekolpfklhdaa
end

section
/- What function 41 (slices.Repeat(()slipway/api.Place,slipway/api.Place)) computes, by the kernel. -/
open Go Go.Proofs.AM
namespace Go.Proofs.Ytefekolpfklhdaa

noncomputable def m41 (x : (List (Int × Int)) × Int × Unit) : Option (List (Int × Int)) :=
  bif (decide (x.2.1 < (0 : Int))) then
    (none)
  else
    (Option.bind (m70 ((Go.IntKind.wrap .u64 (((List.length x.1) : Nat) : Int)), ((Go.IntKind.wrap .u64 x.2.1), ()))) fun (y1 : (Int × (Int × Unit))) =>
    bif (decide (y1.1 > (0 : Int))) then
      (none)
    else
      (bif (decide (y1.2.1 > (9223372036854775807 : Int))) then
        (none)
      else
        (gd ((0 : Int) ≤ (Go.IntKind.wrap .i64 y1.2.1)) (gd ((Go.IntKind.wrap .i64 y1.2.1) ≤ (Go.IntKind.wrap .i64 y1.2.1)) (gd (((Go.IntKind.wrap .i64 y1.2.1) * (16 : Int)) ≤ (140737488355328 : Int)) (Option.bind (loopM (X := (Int × (List (Int × Int)))) (E := (List (Int × Int))) (fun (x2 : (Int × (List (Int × Int)))) =>
                  bif (decide (x2.1 < (((List.length x2.2) : Nat) : Int))) then
                    (gd ((0 : Int) ≤ x2.1) (gd (x2.1 ≤ (((List.length x2.2) : Nat) : Int)) (gd ((((List.length x2.2) : Nat) : Int) ≤ (((List.length x2.2) : Nat) : Int)) (gd ((0 : Int) ≤ x2.1) (gd (x2.1 ≤ (((List.length x2.2) : Nat) : Int)) (some (Sum.inl ((Go.IntKind.wrap .i64 (x2.1 + (((min (List.length (List.take ((Int.toNat x2.1) - (Int.toNat (0 : Int))) (List.drop (Int.toNat (0 : Int)) x2.2))) ((Int.toNat (((List.length x2.2) : Nat) : Int)) - (Int.toNat x2.1))) : Nat) : Int))), (((List.take (Int.toNat x2.1) x2.2) ++ (List.take ((Int.toNat (((List.length x2.2) : Nat) : Int)) - (Int.toNat x2.1)) (List.take ((Int.toNat x2.1) - (Int.toNat (0 : Int))) (List.drop (Int.toNat (0 : Int)) x2.2)))) ++ (List.drop ((Int.toNat x2.1) + (min (List.length (List.take ((Int.toNat x2.1) - (Int.toNat (0 : Int))) (List.drop (Int.toNat (0 : Int)) x2.2))) ((Int.toNat (((List.length x2.2) : Nat) : Int)) - (Int.toNat x2.1)))) x2.2))))))))))
                  else
                    (some (Sum.inr x2.2))) ((((min (List.length x.1) (List.length (List.replicate (Int.toNat (Go.IntKind.wrap .i64 y1.2.1)) ((0 : Int), (0 : Int))))) : Nat) : Int), ((List.take (List.length (List.replicate (Int.toNat (Go.IntKind.wrap .i64 y1.2.1)) ((0 : Int), (0 : Int)))) x.1) ++ (List.drop (List.length x.1) (List.replicate (Int.toNat (Go.IntKind.wrap .i64 y1.2.1)) ((0 : Int), (0 : Int))))))) fun (y2 : (List (Int × Int))) =>
              some y2))))))

noncomputable def r41 : PDen [(false, (.sl (.pair (.int .i64) (.int .i64)))), (false, (.int .i64))] → Option (List (K.den (.pair (.int .i64) (.int .i64)))) := fun x => afunO Try.prog (envOf [(70, ⟨[(false, (.int .u64)), (false, (.int .u64))], [(false, (.int .u64)), (false, (.int .u64))], false, m70⟩)] [] [] []) ⟨[(0, ⟨[.slot 8 (.d false (.int .i64) true), .vec 0 34 (.pair (.int .i64) (.int .i64)) true], [], [(some 0, [.vec 0 34 (.pair (.int .i64) (.int .i64)) true])], none⟩)], []⟩ Try.f41 [(false, (.sl (.pair (.int .i64) (.int .i64)))), (false, (.int .i64))] 34 (.pair (.int .i64) (.int .i64)) false x
theorem r41_eq : r41 = m41 := by kernel_rfl

theorem c41 : OS.Sound Try.prog 41 ⟨[(false, (.sl (.pair (.int .i64) (.int .i64)))), (false, (.int .i64))], 34, (.pair (.int .i64) (.int .i64)), false, m41⟩ := afunO_sound' (envOf_sound (CSs.cons c70 (CSs.nil)) (HDs.nil) (IDs.nil)) rfl Try.follows (f := 41) (fn := Try.f41) Try.func41 (by kernel_rfl) (by kernel_rfl) r41_eq
end Go.Proofs.Ytefekolpfklhdaa
end

section
/- What function 14 (slipway/scan.Newest) computes, by the kernel. -/
open Go Go.Proofs.AM
namespace Go.Proofs.Ytefekolpfklhdaa

noncomputable def m14 (x : Int × Int × (List ((Int × Int) × (Int × (Int × (Int × Int))))) × Unit) : Option ((List (Int × Int)) × Unit) :=
  Option.bind (m38 (x.1, (x.2.1, ((1 : Int), ())))) fun (y1 : ((Int × (Int × (Int × ((List Int) × ((List Bool) × ((Int × (Int × Int)) × (List (Int × (List Int))))))))) × (Int × Unit))) =>
  bif (!(decide (y1.2.1 = (0 : Int)))) then
    (some (([] : List (Int × Int)), ()))
  else
    (Option.bind (loopM (X := (Int × (List (Int × ((Int × Int) × (Int × (Int × (Int × Int)))))))) (E := (List (Int × ((Int × Int) × (Int × (Int × (Int × Int))))))) (fun (x2 : (Int × (List (Int × ((Int × Int) × (Int × (Int × (Int × Int)))))))) =>
        bif (decide (x2.1 < (((List.length x.2.2.1) : Nat) : Int))) then
          (gd ((0 : Int) ≤ x2.1) (gd (x2.1 < (((List.length x.2.2.1) : Nat) : Int)) (Option.bind (m68 (x.1, ((List.getD x.2.2.1 (Int.toNat x2.1) (((0 : Int), (0 : Int)), ((0 : Int), ((0 : Int), ((0 : Int), (0 : Int)))))), ()))) fun (y3 : (Bool × Unit)) =>
              bif y3.1 then
                (bif (decide ((List.getD x.2.2.1 (Int.toNat x2.1) (((0 : Int), (0 : Int)), ((0 : Int), ((0 : Int), ((0 : Int), (0 : Int)))))).2.2.1 ≥ (Go.IntKind.wrap .i64 (x.2.1 * x.1)))) then
                  (some (Sum.inl ((Go.IntKind.wrap .i64 (x2.1 + (1 : Int))), x2.2)))
                else
                  (bif (!(mhas (false, (.int .i64)) x2.2 (List.getD x.2.2.1 (Int.toNat x2.1) (((0 : Int), (0 : Int)), ((0 : Int), ((0 : Int), ((0 : Int), (0 : Int)))))).2.2.1)) then
                    (some (Sum.inl ((Go.IntKind.wrap .i64 (x2.1 + (1 : Int))), (mset (false, (.int .i64)) x2.2 (List.getD x.2.2.1 (Int.toNat x2.1) (((0 : Int), (0 : Int)), ((0 : Int), ((0 : Int), ((0 : Int), (0 : Int)))))).2.2.1 (List.getD x.2.2.1 (Int.toNat x2.1) (((0 : Int), (0 : Int)), ((0 : Int), ((0 : Int), ((0 : Int), (0 : Int))))))))))
                  else
                    (Option.bind (m40 ((List.getD x.2.2.1 (Int.toNat x2.1) (((0 : Int), (0 : Int)), ((0 : Int), ((0 : Int), ((0 : Int), (0 : Int)))))), ((mget (false, (.int .i64)) x2.2 (List.getD x.2.2.1 (Int.toNat x2.1) (((0 : Int), (0 : Int)), ((0 : Int), ((0 : Int), ((0 : Int), (0 : Int)))))).2.2.1 (((0 : Int), (0 : Int)), ((0 : Int), ((0 : Int), ((0 : Int), (0 : Int)))))), ()))) fun (y4 : (Bool × Unit)) =>
                    bif y4.1 then
                      (some (Sum.inl ((Go.IntKind.wrap .i64 (x2.1 + (1 : Int))), (mset (false, (.int .i64)) x2.2 (List.getD x.2.2.1 (Int.toNat x2.1) (((0 : Int), (0 : Int)), ((0 : Int), ((0 : Int), ((0 : Int), (0 : Int)))))).2.2.1 (List.getD x.2.2.1 (Int.toNat x2.1) (((0 : Int), (0 : Int)), ((0 : Int), ((0 : Int), ((0 : Int), (0 : Int))))))))))
                    else
                      (some (Sum.inl ((Go.IntKind.wrap .i64 (x2.1 + (1 : Int))), x2.2))))))
              else
                (some (Sum.inl ((Go.IntKind.wrap .i64 (x2.1 + (1 : Int))), x2.2))))))
        else
          (some (Sum.inr x2.2))) ((0 : Int), ([] : List (Int × ((Int × Int) × (Int × (Int × (Int × Int)))))))) fun (y2 : (List (Int × ((Int × Int) × (Int × (Int × (Int × Int))))))) =>
    Option.bind (m42 ()) fun (y3 : ((Int × Int) × Unit)) =>
    Option.bind (m41 ((y3.1 :: ([] : List (Int × Int))), ((Go.IntKind.wrap .i64 (x.2.1 * x.1)), ()))) fun (y4 : (List (Int × Int))) =>
    Option.bind (anyM (A := (Int × ((Int × Int) × (Int × (Int × (Int × Int)))))) (X := (List (Int × Int))) (E := (List (Int × Int))) (fun (p5 : (Int × ((Int × Int) × (Int × (Int × (Int × Int)))))) l5 (x5 : (List (Int × Int))) =>
        gd ((0 : Int) ≤ p5.1) (gd (p5.1 < (((List.length x5) : Nat) : Int)) (gd ((Int.toNat p5.1) < (List.length x5)) (some (Sum.inl (List.set x5 (Int.toNat p5.1) p5.2.1)))))) (fun (x5 : (List (Int × Int))) =>
        some (Sum.inr x5)) y2 y4) fun (y5 : (List (Int × Int))) =>
    some (y5, ()))

noncomputable def i14_39 : ID := aInl Try.prog (envOf [] [] [] []) ⟨[], []⟩ Try.f39
noncomputable def i14_67 : ID := aInl Try.prog (envOf [(68, ⟨[(false, (.int .i64)), (true, (.pair (.pair (.int .i64) (.int .i64)) (.pair (.int .i64) (.pair (.int .i64) (.pair (.int .i64) (.int .i64))))))], [(false, .bool)], false, m68⟩)] [] [] []) ⟨[(12000, ⟨[.slot 8 (.d false (.int .i64) true), .map 5 (false, (.int .i64)) (true, (.pair (.pair (.int .i64) (.int .i64)) (.pair (.int .i64) (.pair (.int .i64) (.pair (.int .i64) (.int .i64)))))) true], [], [(some 0, [.map 5 (false, (.int .i64)) (true, (.pair (.pair (.int .i64) (.int .i64)) (.pair (.int .i64) (.pair (.int .i64) (.pair (.int .i64) (.int .i64)))))) true])], none⟩)], []⟩ Try.f67
noncomputable def r14 : PDen [(false, (.int .i64)), (false, (.int .i64)), (false, (.sl (.pair (.pair (.int .i64) (.int .i64)) (.pair (.int .i64) (.pair (.int .i64) (.pair (.int .i64) (.int .i64)))))))] → Option (PDen [(false, (.sl (.pair (.int .i64) (.int .i64))))]) := fun x => afun Try.prog (envOf [(40, ⟨[(true, (.pair (.pair (.int .i64) (.int .i64)) (.pair (.int .i64) (.pair (.int .i64) (.pair (.int .i64) (.int .i64)))))), (true, (.pair (.pair (.int .i64) (.int .i64)) (.pair (.int .i64) (.pair (.int .i64) (.pair (.int .i64) (.int .i64))))))], [(false, .bool)], false, m40⟩), (42, ⟨[], [(true, (.pair (.int .i64) (.int .i64)))], false, m42⟩)] [(41, OS.hd ⟨[(false, (.sl (.pair (.int .i64) (.int .i64)))), (false, (.int .i64))], 34, (.pair (.int .i64) (.int .i64)), false, m41⟩), (38, OM.hd ⟨[(false, (.int .i64)), (false, (.int .i64)), (false, (.int .i64))], [(true, (.pair (.int .i64) (.pair (.int .i64) (.pair (.int .i64) (.pair (.sl (.int .i64)) (.pair (.sl .bool) (.pair (.pair (.int .i64) (.pair (.int .i64) (.int .i64))) (.sl (.pair (.int .i64) (.sl (.int .i64))))))))))), (false, (.int .i64))], [(.p .d (.p .d (.p .d (.p (.s 3) (.p (.s 4) .d))))), .d], false, m38⟩)] [] [(39, i14_39), (67, i14_67)]) ⟨[(2, ⟨[.vec 12 34 (.pair (.int .i64) (.int .i64)) true], [], [(some 2, [.vec 12 34 (.pair (.int .i64) (.int .i64)) true])], some 63⟩)], []⟩ Try.f14 [(false, (.int .i64)), (false, (.int .i64)), (false, (.sl (.pair (.pair (.int .i64) (.int .i64)) (.pair (.int .i64) (.pair (.int .i64) (.pair (.int .i64) (.int .i64)))))))] [(false, (.sl (.pair (.int .i64) (.int .i64))))] false x
theorem r14_eq : r14 = m14 := by kernel_rfl

theorem i14_39_sound : i14_39.Sound Try.prog 39 := aInl_sound' (envOf_sound (CSs.nil) (HDs.nil) (IDs.nil)) Try.follows (f := 39) (fn := Try.f39) Try.func39 (by kernel_rfl) (by kernel_rfl)
theorem i14_67_sound : i14_67.Sound Try.prog 67 := aInl_sound' (envOf_sound (CSs.cons c68 (CSs.nil)) (HDs.nil) (IDs.nil)) Try.follows (f := 67) (fn := Try.f67) Try.func67 (by kernel_rfl) (by kernel_rfl)
theorem c14 : CS.Sound Try.prog 14 ⟨[(false, (.int .i64)), (false, (.int .i64)), (false, (.sl (.pair (.pair (.int .i64) (.int .i64)) (.pair (.int .i64) (.pair (.int .i64) (.pair (.int .i64) (.int .i64)))))))], [(false, (.sl (.pair (.int .i64) (.int .i64))))], false, m14⟩ := afun_sound' (envOf_sound (CSs.cons c40 (CSs.cons c42 (CSs.nil))) (HDs.cons (OS.Sound.hd c41) (HDs.cons (OM.Sound.hd c38) (HDs.nil))) (IDs.cons i14_39_sound (IDs.cons i14_67_sound (IDs.nil)))) rfl Try.follows (f := 14) (fn := Try.f14) Try.func14 (by kernel_rfl) (by kernel_rfl) r14_eq
end Go.Proofs.Ytefekolpfklhdaa
end

section
/- What function 16 (slipway/scan.Greatest) computes, by the kernel. -/
open Go Go.Proofs.AM
namespace Go.Proofs.Ytefekolpfklhdaa

noncomputable def m16 (x : (List ((Int × Int) × (Int × (Int × (Int × Int))))) × Unit) : Option (Int × Unit) :=
  Option.bind (loopM (X := (Int × Int)) (E := Int) (fun (x1 : (Int × Int)) =>
      bif (decide (x1.2 < (((List.length x.1) : Nat) : Int))) then
        (gd ((0 : Int) ≤ x1.2) (gd (x1.2 < (((List.length x.1) : Nat) : Int)) (Option.bind (m46 ((List.getD x.1 (Int.toNat x1.2) (((0 : Int), (0 : Int)), ((0 : Int), ((0 : Int), ((0 : Int), (0 : Int)))))).2, ())) fun (y2 : (Int × Unit)) =>
            bif (decide (y2.1 = (0 : Int))) then
              (some (Sum.inl ((if (List.getD x.1 (Int.toNat x1.2) (((0 : Int), (0 : Int)), ((0 : Int), ((0 : Int), ((0 : Int), (0 : Int)))))).2.2.2.2 > x1.1 then (List.getD x.1 (Int.toNat x1.2) (((0 : Int), (0 : Int)), ((0 : Int), ((0 : Int), ((0 : Int), (0 : Int)))))).2.2.2.2 else x1.1), (Go.IntKind.wrap .i64 (x1.2 + (1 : Int))))))
            else
              (some (Sum.inl (x1.1, (Go.IntKind.wrap .i64 (x1.2 + (1 : Int)))))))))
      else
        (some (Sum.inr x1.1))) ((0 : Int), (0 : Int))) fun (y1 : Int) =>
  some (y1, ())

noncomputable def r16 : PDen [(false, (.sl (.pair (.pair (.int .i64) (.int .i64)) (.pair (.int .i64) (.pair (.int .i64) (.pair (.int .i64) (.int .i64)))))))] → Option (PDen [(false, (.int .i64))]) := fun x => afun Try.prog (envOf [(46, ⟨[(true, (.pair (.int .i64) (.pair (.int .i64) (.pair (.int .i64) (.int .i64)))))], [(false, (.int .i64))], false, m46⟩)] [] [] []) ⟨[(0, ⟨[.slot 3 (.d false (.int .i64) true), .slot 8 (.d false (.int .i64) true)], [], [(some 0, [.slot 3 (.d false (.int .i64) true)])], none⟩)], []⟩ Try.f16 [(false, (.sl (.pair (.pair (.int .i64) (.int .i64)) (.pair (.int .i64) (.pair (.int .i64) (.pair (.int .i64) (.int .i64)))))))] [(false, (.int .i64))] false x
theorem r16_eq : r16 = m16 := by kernel_rfl

theorem c16 : CS.Sound Try.prog 16 ⟨[(false, (.sl (.pair (.pair (.int .i64) (.int .i64)) (.pair (.int .i64) (.pair (.int .i64) (.pair (.int .i64) (.int .i64)))))))], [(false, (.int .i64))], false, m16⟩ := afun_sound' (envOf_sound (CSs.cons c46 (CSs.nil)) (HDs.nil) (IDs.nil)) rfl Try.follows (f := 16) (fn := Try.f16) Try.func16 (by kernel_rfl) (by kernel_rfl) r16_eq
end Go.Proofs.Ytefekolpfklhdaa
end

section
/- What function 11 (slipway/slipwaylaw07.live) computes, by the kernel. -/
open Go Go.Proofs.AM
namespace Go.Proofs.Ytefekolpfklhdaa

noncomputable def m11 (x : Unit) : Option (Bool × Unit) :=
  Option.bind (m14 ((4 : Int), ((2 : Int), (((((7 : Int), (1 : Int)), ((1 : Int), ((5 : Int), ((3 : Int), (3 : Int))))) :: ((((9 : Int), (0 : Int)), ((2 : Int), ((5 : Int), ((4 : Int), (4 : Int))))) :: ([] : List ((Int × Int) × (Int × (Int × (Int × Int))))))), ())))) fun (y1 : ((List (Int × Int)) × Unit)) =>
  bif (decide ((((List.length y1.1) : Nat) : Int) = (8 : Int))) then
    (gd ((5 : Int) < (((List.length y1.1) : Nat) : Int)) (bif ((decide ((List.getD y1.1 (Int.toNat (5 : Int)) ((0 : Int), (0 : Int))).1 = (9 : Int))) && (decide ((List.getD y1.1 (Int.toNat (5 : Int)) ((0 : Int), (0 : Int))).2 = (0 : Int)))) then
        (gd ((0 : Int) < (((List.length y1.1) : Nat) : Int)) (bif ((decide ((List.getD y1.1 (Int.toNat (0 : Int)) ((0 : Int), (0 : Int))).1 = (-1 : Int))) && (decide ((List.getD y1.1 (Int.toNat (0 : Int)) ((0 : Int), (0 : Int))).2 = (0 : Int)))) then
            (Option.bind (m16 (((((7 : Int), (1 : Int)), ((1 : Int), ((5 : Int), ((3 : Int), (3 : Int))))) :: ((((9 : Int), (0 : Int)), ((2 : Int), ((5 : Int), ((4 : Int), (4 : Int))))) :: ([] : List ((Int × Int) × (Int × (Int × (Int × Int))))))), ())) fun (y2 : (Int × Unit)) =>
            some ((decide (y2.1 = (4 : Int))), ()))
          else
            (some (false, ()))))
      else
        (some (false, ()))))
  else
    (some (false, ()))

noncomputable def r11 : PDen [] → Option (PDen [(false, .bool)]) := fun x => afun Try.prog (envOf [(14, ⟨[(false, (.int .i64)), (false, (.int .i64)), (false, (.sl (.pair (.pair (.int .i64) (.int .i64)) (.pair (.int .i64) (.pair (.int .i64) (.pair (.int .i64) (.int .i64)))))))], [(false, (.sl (.pair (.int .i64) (.int .i64))))], false, m14⟩), (16, ⟨[(false, (.sl (.pair (.pair (.int .i64) (.int .i64)) (.pair (.int .i64) (.pair (.int .i64) (.pair (.int .i64) (.int .i64)))))))], [(false, (.int .i64))], false, m16⟩)] [] [] []) ⟨[], []⟩ Try.f11 [] [(false, .bool)] false x
theorem r11_eq : r11 = m11 := by kernel_rfl

theorem c11 : CS.Sound Try.prog 11 ⟨[], [(false, .bool)], false, m11⟩ := afun_sound' (envOf_sound (CSs.cons c14 (CSs.cons c16 (CSs.nil))) (HDs.nil) (IDs.nil)) rfl Try.follows (f := 11) (fn := Try.f11) Try.func11 (by kernel_rfl) (by kernel_rfl) r11_eq
end Go.Proofs.Ytefekolpfklhdaa
end

section
/- What function 12 (slipway/slipwaylaw07.few) computes, by the kernel. -/
open Go Go.Proofs.AM
namespace Go.Proofs.Ytefekolpfklhdaa

noncomputable def m12 (x : (Int × (Int × (Int × ((List ((Int × Int) × (Int × (Int × (Int × Int))))) × (List (Int × Int)))))) × Unit) : Option (Bool × Unit) :=
  bif (decide ((((List.length x.1.2.2.2.1) : Nat) : Int) ≤ (80 : Int))) then
    (bif (decide ((((List.length x.1.2.2.2.2) : Nat) : Int) ≤ (400 : Int))) then
      (bif (decide (x.1.2.1 ≤ (24 : Int))) then
        (some (true, ()))
      else
        (some ((decide (x.1.2.1 > (256 : Int))), ())))
    else
      (some (false, ())))
  else
    (some (false, ()))

noncomputable def r12 : PDen [(true, (.pair (.int .i64) (.pair (.int .i64) (.pair (.int .i64) (.pair (.sl (.pair (.pair (.int .i64) (.int .i64)) (.pair (.int .i64) (.pair (.int .i64) (.pair (.int .i64) (.int .i64)))))) (.sl (.pair (.int .i64) (.int .i64))))))))] → Option (PDen [(false, .bool)]) := fun x => afun Try.prog (envOf [] [] [] []) ⟨[], []⟩ Try.f12 [(true, (.pair (.int .i64) (.pair (.int .i64) (.pair (.int .i64) (.pair (.sl (.pair (.pair (.int .i64) (.int .i64)) (.pair (.int .i64) (.pair (.int .i64) (.pair (.int .i64) (.int .i64)))))) (.sl (.pair (.int .i64) (.int .i64))))))))] [(false, .bool)] false x
theorem r12_eq : r12 = m12 := by kernel_rfl

theorem c12 : CS.Sound Try.prog 12 ⟨[(true, (.pair (.int .i64) (.pair (.int .i64) (.pair (.int .i64) (.pair (.sl (.pair (.pair (.int .i64) (.int .i64)) (.pair (.int .i64) (.pair (.int .i64) (.pair (.int .i64) (.int .i64)))))) (.sl (.pair (.int .i64) (.int .i64))))))))], [(false, .bool)], false, m12⟩ := afun_sound' (envOf_sound (CSs.nil) (HDs.nil) (IDs.nil)) rfl Try.follows (f := 12) (fn := Try.f12) Try.func12 (by kernel_rfl) (by kernel_rfl) r12_eq
end Go.Proofs.Ytefekolpfklhdaa
end

section
/- What function 55 (slipway/slipwayref05.sameInts) computes, by the kernel. -/
open Go Go.Proofs.AM
namespace Go.Proofs.Ytefekolpfklhdaa

noncomputable def m55 (x : (List Int) × (List Int) × Unit) : Option (Bool × Unit) :=
  bif (!(decide ((((List.length x.1) : Nat) : Int) = (((List.length x.2.1) : Nat) : Int)))) then
    (some (false, ()))
  else
    (Option.bind (loopM (X := Int) (E := (Unit ⊕ Bool)) (fun (x1 : Int) =>
        bif (decide (x1 < (((List.length x.1) : Nat) : Int))) then
          (gd ((0 : Int) ≤ x1) (gd (x1 < (((List.length x.1) : Nat) : Int)) (gd ((0 : Int) ≤ x1) (gd (x1 < (((List.length x.2.1) : Nat) : Int)) (bif (!(decide ((List.getD x.1 (Int.toNat x1) (0 : Int)) = (List.getD x.2.1 (Int.toNat x1) (0 : Int))))) then
                    (some (Sum.inr (Sum.inr false)))
                  else
                    (some (Sum.inl (Go.IntKind.wrap .i64 (x1 + (1 : Int))))))))))
        else
          (some (Sum.inr (Sum.inl ())))) (0 : Int)) fun (y1 : (Unit ⊕ Bool)) =>
    Sum.elim (fun y2 =>
      some (true, ())) (fun y2 =>
      some (y2, ())) y1)

noncomputable def r55 : PDen [(false, (.sl (.int .i64))), (false, (.sl (.int .i64)))] → Option (PDen [(false, .bool)]) := fun x => afun Try.prog (envOf [] [] [] []) ⟨[(0, ⟨[.slot 5 (.d false (.int .i64) true)], [], [(some 0, []), (none, [.slot 4 (.d false .bool true)])], none⟩)], []⟩ Try.f55 [(false, (.sl (.int .i64))), (false, (.sl (.int .i64)))] [(false, .bool)] false x
theorem r55_eq : r55 = m55 := by kernel_rfl

theorem c55 : CS.Sound Try.prog 55 ⟨[(false, (.sl (.int .i64))), (false, (.sl (.int .i64)))], [(false, .bool)], false, m55⟩ := afun_sound' (envOf_sound (CSs.nil) (HDs.nil) (IDs.nil)) rfl Try.follows (f := 55) (fn := Try.f55) Try.func55 (by kernel_rfl) (by kernel_rfl) r55_eq
end Go.Proofs.Ytefekolpfklhdaa
end

section
/- What function 26 (slipway/slipwayref05.Same) computes, by the kernel. -/
open Go Go.Proofs.AM
namespace Go.Proofs.Ytefekolpfklhdaa

noncomputable def m26 (x : (Int × (Int × (Int × ((List Int) × ((List Bool) × ((Int × (Int × Int)) × (List (Int × (List Int))))))))) × (Int × (Int × (Int × ((List Int) × ((List Bool) × ((Int × (Int × Int)) × (List (Int × (List Int))))))))) × Unit) : Option (Bool × Unit) :=
  bif (!(decide (x.1.1 = x.2.1.1))) then
    (some (false, ()))
  else
    (bif (!(decide (x.1.2.1 = x.2.1.2.1))) then
      (some (false, ()))
    else
      (bif (!(decide (x.1.2.2.1 = x.2.1.2.2.1))) then
        (some (false, ()))
      else
        (bif (!((decide (x.1.2.2.2.2.2.1.1 = x.2.1.2.2.2.2.2.1.1)) && ((decide (x.1.2.2.2.2.2.1.2.1 = x.2.1.2.2.2.2.2.1.2.1)) && (decide (x.1.2.2.2.2.2.1.2.2 = x.2.1.2.2.2.2.2.1.2.2))))) then
          (some (false, ()))
        else
          (Option.bind (m55 (x.1.2.2.2.1, (x.2.1.2.2.2.1, ()))) fun (y1 : (Bool × Unit)) =>
          bif (!y1.1) then
            (some (false, ()))
          else
            (bif (!(decide ((((List.length x.1.2.2.2.2.1) : Nat) : Int) = (((List.length x.2.1.2.2.2.2.1) : Nat) : Int)))) then
              (some (false, ()))
            else
              (bif (!(decide ((((List.length x.1.2.2.2.2.2.2) : Nat) : Int) = (((List.length x.2.1.2.2.2.2.2.2) : Nat) : Int)))) then
                (some (false, ()))
              else
                (Option.bind (loopM (X := Int) (E := (Unit ⊕ Bool)) (fun (x2 : Int) =>
                    bif (decide (x2 < (((List.length x.1.2.2.2.2.1) : Nat) : Int))) then
                      (gd ((0 : Int) ≤ x2) (gd (x2 < (((List.length x.1.2.2.2.2.1) : Nat) : Int)) (gd ((0 : Int) ≤ x2) (gd (x2 < (((List.length x.2.1.2.2.2.2.1) : Nat) : Int)) (bif (!(bif (List.getD x.1.2.2.2.2.1 (Int.toNat x2) false) then (List.getD x.2.1.2.2.2.2.1 (Int.toNat x2) false) else (!(List.getD x.2.1.2.2.2.2.1 (Int.toNat x2) false)))) then
                                (some (Sum.inr (Sum.inr false)))
                              else
                                (some (Sum.inl (Go.IntKind.wrap .i64 (x2 + (1 : Int))))))))))
                    else
                      (some (Sum.inr (Sum.inl ())))) (0 : Int)) fun (y2 : (Unit ⊕ Bool)) =>
                Sum.elim (fun y3 =>
                  Option.bind (loopM (X := Int) (E := (Unit ⊕ Bool)) (fun (x4 : Int) =>
                      bif (decide (x4 < (((List.length x.1.2.2.2.2.2.2) : Nat) : Int))) then
                        (gd ((0 : Int) ≤ x4) (gd (x4 < (((List.length x.1.2.2.2.2.2.2) : Nat) : Int)) (gd ((0 : Int) ≤ x4) (gd (x4 < (((List.length x.2.1.2.2.2.2.2.2) : Nat) : Int)) (bif (!(decide ((List.getD x.1.2.2.2.2.2.2 (Int.toNat x4) ((0 : Int), ([] : List Int))).1 = (List.getD x.2.1.2.2.2.2.2.2 (Int.toNat x4) ((0 : Int), ([] : List Int))).1))) then
                                  (some (Sum.inr (Sum.inr false)))
                                else
                                  (gd ((0 : Int) ≤ x4) (gd (x4 < (((List.length x.1.2.2.2.2.2.2) : Nat) : Int)) (gd ((0 : Int) ≤ x4) (gd (x4 < (((List.length x.2.1.2.2.2.2.2.2) : Nat) : Int)) (Option.bind (m55 ((List.getD x.1.2.2.2.2.2.2 (Int.toNat x4) ((0 : Int), ([] : List Int))).2, ((List.getD x.2.1.2.2.2.2.2.2 (Int.toNat x4) ((0 : Int), ([] : List Int))).2, ()))) fun (y5 : (Bool × Unit)) =>
                                          bif (!y5.1) then
                                            (some (Sum.inr (Sum.inr false)))
                                          else
                                            (some (Sum.inl (Go.IntKind.wrap .i64 (x4 + (1 : Int)))))))))))))))
                      else
                        (some (Sum.inr (Sum.inl ())))) (0 : Int)) fun (y4 : (Unit ⊕ Bool)) =>
                  Sum.elim (fun y5 =>
                    some (true, ())) (fun y5 =>
                    some (y5, ())) y4) (fun y3 =>
                  some (y3, ())) y2)))))))

noncomputable def r26 : PDen [(true, (.pair (.int .i64) (.pair (.int .i64) (.pair (.int .i64) (.pair (.sl (.int .i64)) (.pair (.sl .bool) (.pair (.pair (.int .i64) (.pair (.int .i64) (.int .i64))) (.sl (.pair (.int .i64) (.sl (.int .i64))))))))))), (true, (.pair (.int .i64) (.pair (.int .i64) (.pair (.int .i64) (.pair (.sl (.int .i64)) (.pair (.sl .bool) (.pair (.pair (.int .i64) (.pair (.int .i64) (.int .i64))) (.sl (.pair (.int .i64) (.sl (.int .i64)))))))))))] → Option (PDen [(false, .bool)]) := fun x => afun Try.prog (envOf [(55, ⟨[(false, (.sl (.int .i64))), (false, (.sl (.int .i64)))], [(false, .bool)], false, m55⟩)] [] [] []) ⟨[(0, ⟨[.slot 5 (.d false (.int .i64) true)], [], [(some 0, []), (none, [.slot 4 (.d false .bool true)])], none⟩), (2, ⟨[.slot 6 (.d false (.int .i64) true)], [], [(some 2, []), (none, [.slot 4 (.d false .bool true)])], none⟩)], []⟩ Try.f26 [(true, (.pair (.int .i64) (.pair (.int .i64) (.pair (.int .i64) (.pair (.sl (.int .i64)) (.pair (.sl .bool) (.pair (.pair (.int .i64) (.pair (.int .i64) (.int .i64))) (.sl (.pair (.int .i64) (.sl (.int .i64))))))))))), (true, (.pair (.int .i64) (.pair (.int .i64) (.pair (.int .i64) (.pair (.sl (.int .i64)) (.pair (.sl .bool) (.pair (.pair (.int .i64) (.pair (.int .i64) (.int .i64))) (.sl (.pair (.int .i64) (.sl (.int .i64)))))))))))] [(false, .bool)] false x
theorem r26_eq : r26 = m26 := by kernel_rfl

theorem c26 : CS.Sound Try.prog 26 ⟨[(true, (.pair (.int .i64) (.pair (.int .i64) (.pair (.int .i64) (.pair (.sl (.int .i64)) (.pair (.sl .bool) (.pair (.pair (.int .i64) (.pair (.int .i64) (.int .i64))) (.sl (.pair (.int .i64) (.sl (.int .i64))))))))))), (true, (.pair (.int .i64) (.pair (.int .i64) (.pair (.int .i64) (.pair (.sl (.int .i64)) (.pair (.sl .bool) (.pair (.pair (.int .i64) (.pair (.int .i64) (.int .i64))) (.sl (.pair (.int .i64) (.sl (.int .i64)))))))))))], [(false, .bool)], false, m26⟩ := afun_sound' (envOf_sound (CSs.cons c55 (CSs.nil)) (HDs.nil) (IDs.nil)) rfl Try.follows (f := 26) (fn := Try.f26) Try.func26 (by kernel_rfl) (by kernel_rfl) r26_eq
end Go.Proofs.Ytefekolpfklhdaa
end

section
/- What function 50 (slipway/scan.isPlace) computes, by the kernel. -/
open Go Go.Proofs.AM
namespace Go.Proofs.Ytefekolpfklhdaa

noncomputable def m50 (x : (Int × Int) × Unit) : Option (Bool × Unit) :=
  Option.bind (m48 (x.1.1, ((0 : Int), ((255 : Int), ())))) fun (y1 : (Bool × Unit)) =>
  bif y1.1 then
    (Option.bind (m48 (x.1.2, ((0 : Int), ((31 : Int), ())))) fun (y2 : (Bool × Unit)) =>
    some (y2.1, ()))
  else
    (some (false, ()))

noncomputable def r50 : PDen [(true, (.pair (.int .i64) (.int .i64)))] → Option (PDen [(false, .bool)]) := fun x => afun Try.prog (envOf [(48, ⟨[(false, (.int .i64)), (false, (.int .i64)), (false, (.int .i64))], [(false, .bool)], false, m48⟩)] [] [] []) ⟨[], []⟩ Try.f50 [(true, (.pair (.int .i64) (.int .i64)))] [(false, .bool)] false x
theorem r50_eq : r50 = m50 := by kernel_rfl

theorem c50 : CS.Sound Try.prog 50 ⟨[(true, (.pair (.int .i64) (.int .i64)))], [(false, .bool)], false, m50⟩ := afun_sound' (envOf_sound (CSs.cons c48 (CSs.nil)) (HDs.nil) (IDs.nil)) rfl Try.follows (f := 50) (fn := Try.f50) Try.func50 (by kernel_rfl) (by kernel_rfl) r50_eq
end Go.Proofs.Ytefekolpfklhdaa
end

section
/- What function 32 (slipway/scan.Settled) computes, by the kernel. -/
open Go Go.Proofs.AM
namespace Go.Proofs.Ytefekolpfklhdaa

noncomputable def m32 (x : Int × (List (Int × Int)) × Int × Unit) : Option (Int × (Bool × Unit)) :=
  Option.bind (m48 (x.1, ((4 : Int), ((32 : Int), ())))) fun (y1 : (Bool × Unit)) =>
  bif (!y1.1) then
    (some ((0 : Int), (false, ())))
  else
    (if x.1 = (0 : Int) then
      (none)
    else
      (bif (!(decide ((Int.tmod (((List.length x.2.1) : Nat) : Int) x.1) = (0 : Int)))) then
        (some ((0 : Int), (false, ())))
      else
        (if x.1 = (0 : Int) then
          (none)
        else
          (Option.bind (m48 (x.2.2.1, ((0 : Int), ((Go.IntKind.wrap .i64 ((Go.IntKind.wrap .i64 (Int.tdiv (((List.length x.2.1) : Nat) : Int) x.1)) - (1 : Int))), ())))) fun (y2 : (Bool × Unit)) =>
          bif (!y2.1) then
            (some ((0 : Int), (false, ())))
          else
            (gd ((0 : Int) ≤ (Go.IntKind.wrap .i64 (x.2.2.1 * x.1))) (gd ((Go.IntKind.wrap .i64 (x.2.2.1 * x.1)) ≤ (Go.IntKind.wrap .i64 ((Go.IntKind.wrap .i64 (x.2.2.1 + (1 : Int))) * x.1))) (gd ((Go.IntKind.wrap .i64 ((Go.IntKind.wrap .i64 (x.2.2.1 + (1 : Int))) * x.1)) ≤ (((List.length x.2.1) : Nat) : Int)) (Option.bind (loopM (X := (Int × (Bool × Int))) (E := ((Int × Bool) ⊕ (Int × Bool))) (fun (x3 : (Int × (Bool × Int))) =>
                      bif (decide (x3.2.2 < (((List.length (List.take ((Int.toNat (Go.IntKind.wrap .i64 ((Go.IntKind.wrap .i64 (x.2.2.1 + (1 : Int))) * x.1))) - (Int.toNat (Go.IntKind.wrap .i64 (x.2.2.1 * x.1)))) (List.drop (Int.toNat (Go.IntKind.wrap .i64 (x.2.2.1 * x.1))) x.2.1))) : Nat) : Int))) then
                        (gd ((0 : Int) ≤ x3.2.2) (gd (x3.2.2 < (((List.length (List.take ((Int.toNat (Go.IntKind.wrap .i64 ((Go.IntKind.wrap .i64 (x.2.2.1 + (1 : Int))) * x.1))) - (Int.toNat (Go.IntKind.wrap .i64 (x.2.2.1 * x.1)))) (List.drop (Int.toNat (Go.IntKind.wrap .i64 (x.2.2.1 * x.1))) x.2.1))) : Nat) : Int)) (Option.bind (m50 ((List.getD (List.take ((Int.toNat (Go.IntKind.wrap .i64 ((Go.IntKind.wrap .i64 (x.2.2.1 + (1 : Int))) * x.1))) - (Int.toNat (Go.IntKind.wrap .i64 (x.2.2.1 * x.1)))) (List.drop (Int.toNat (Go.IntKind.wrap .i64 (x.2.2.1 * x.1))) x.2.1)) (Int.toNat x3.2.2) ((0 : Int), (0 : Int))), ())) fun (y4 : (Bool × Unit)) =>
                            bif (!y4.1) then
                              (some (Sum.inl (x3.1, (x3.2.1, (Go.IntKind.wrap .i64 (x3.2.2 + (1 : Int)))))))
                            else
                              (bif x3.2.1 then
                                (bif (!((decide ((List.getD (List.take ((Int.toNat (Go.IntKind.wrap .i64 ((Go.IntKind.wrap .i64 (x.2.2.1 + (1 : Int))) * x.1))) - (Int.toNat (Go.IntKind.wrap .i64 (x.2.2.1 * x.1)))) (List.drop (Int.toNat (Go.IntKind.wrap .i64 (x.2.2.1 * x.1))) x.2.1)) (Int.toNat x3.2.2) ((0 : Int), (0 : Int))).1 = x3.1)) && (decide ((List.getD (List.take ((Int.toNat (Go.IntKind.wrap .i64 ((Go.IntKind.wrap .i64 (x.2.2.1 + (1 : Int))) * x.1))) - (Int.toNat (Go.IntKind.wrap .i64 (x.2.2.1 * x.1)))) (List.drop (Int.toNat (Go.IntKind.wrap .i64 (x.2.2.1 * x.1))) x.2.1)) (Int.toNat x3.2.2) ((0 : Int), (0 : Int))).2 = x3.2.2)))) then
                                  (some (Sum.inr (Sum.inr ((0 : Int), false))))
                                else
                                  (bif (!(decide ((List.getD (List.take ((Int.toNat (Go.IntKind.wrap .i64 ((Go.IntKind.wrap .i64 (x.2.2.1 + (1 : Int))) * x.1))) - (Int.toNat (Go.IntKind.wrap .i64 (x.2.2.1 * x.1)))) (List.drop (Int.toNat (Go.IntKind.wrap .i64 (x.2.2.1 * x.1))) x.2.1)) (Int.toNat x3.2.2) ((0 : Int), (0 : Int))).2 = x3.2.2))) then
                                    (some (Sum.inr (Sum.inr ((0 : Int), false))))
                                  else
                                    (some (Sum.inl ((List.getD (List.take ((Int.toNat (Go.IntKind.wrap .i64 ((Go.IntKind.wrap .i64 (x.2.2.1 + (1 : Int))) * x.1))) - (Int.toNat (Go.IntKind.wrap .i64 (x.2.2.1 * x.1)))) (List.drop (Int.toNat (Go.IntKind.wrap .i64 (x.2.2.1 * x.1))) x.2.1)) (Int.toNat x3.2.2) ((0 : Int), (0 : Int))).1, (true, (Go.IntKind.wrap .i64 (x3.2.2 + (1 : Int)))))))))
                              else
                                (bif (!(decide ((List.getD (List.take ((Int.toNat (Go.IntKind.wrap .i64 ((Go.IntKind.wrap .i64 (x.2.2.1 + (1 : Int))) * x.1))) - (Int.toNat (Go.IntKind.wrap .i64 (x.2.2.1 * x.1)))) (List.drop (Int.toNat (Go.IntKind.wrap .i64 (x.2.2.1 * x.1))) x.2.1)) (Int.toNat x3.2.2) ((0 : Int), (0 : Int))).2 = x3.2.2))) then
                                  (some (Sum.inr (Sum.inr ((0 : Int), false))))
                                else
                                  (some (Sum.inl ((List.getD (List.take ((Int.toNat (Go.IntKind.wrap .i64 ((Go.IntKind.wrap .i64 (x.2.2.1 + (1 : Int))) * x.1))) - (Int.toNat (Go.IntKind.wrap .i64 (x.2.2.1 * x.1)))) (List.drop (Int.toNat (Go.IntKind.wrap .i64 (x.2.2.1 * x.1))) x.2.1)) (Int.toNat x3.2.2) ((0 : Int), (0 : Int))).1, (true, (Go.IntKind.wrap .i64 (x3.2.2 + (1 : Int))))))))))))
                      else
                        (some (Sum.inr (Sum.inl (x3.1, x3.2.1))))) ((0 : Int), (false, (0 : Int)))) fun (y3 : ((Int × Bool) ⊕ (Int × Bool))) =>
                  Sum.elim (fun y4 =>
                    bif (!y4.2) then
                      (some ((0 : Int), (false, ())))
                    else
                      (Option.bind (loopM (X := Int) (E := (Unit ⊕ (Int × Bool))) (fun (x5 : Int) =>
                          bif (decide (x5 < (((List.length x.2.1) : Nat) : Int))) then
                            (gd ((0 : Int) ≤ x5) (gd (x5 < (((List.length x.2.1) : Nat) : Int)) (if x.1 = (0 : Int) then
                                  (none)
                                else
                                  (bif (!(decide ((Go.IntKind.wrap .i64 (Int.tdiv x5 x.1)) = x.2.2.1))) then
                                    (Option.bind (m50 ((List.getD x.2.1 (Int.toNat x5) ((0 : Int), (0 : Int))), ())) fun (y6 : (Bool × Unit)) =>
                                    bif y6.1 then
                                      (bif (decide ((List.getD x.2.1 (Int.toNat x5) ((0 : Int), (0 : Int))).1 = y4.1)) then
                                        (some (Sum.inr (Sum.inr ((0 : Int), false))))
                                      else
                                        (some (Sum.inl (Go.IntKind.wrap .i64 (x5 + (1 : Int))))))
                                    else
                                      (some (Sum.inl (Go.IntKind.wrap .i64 (x5 + (1 : Int))))))
                                  else
                                    (some (Sum.inl (Go.IntKind.wrap .i64 (x5 + (1 : Int)))))))))
                          else
                            (some (Sum.inr (Sum.inl ())))) (0 : Int)) fun (y5 : (Unit ⊕ (Int × Bool))) =>
                      Sum.elim (fun y6 =>
                        some (y4.1, (true, ()))) (fun y6 =>
                        some (y6.1, (y6.2, ()))) y5)) (fun y4 =>
                    some (y4.1, (y4.2, ()))) y3))))))))

noncomputable def r32 : PDen [(false, (.int .i64)), (false, (.sl (.pair (.int .i64) (.int .i64)))), (false, (.int .i64))] → Option (PDen [(false, (.int .i64)), (false, .bool)]) := fun x => afun Try.prog (envOf [(48, ⟨[(false, (.int .i64)), (false, (.int .i64)), (false, (.int .i64))], [(false, .bool)], false, m48⟩), (50, ⟨[(true, (.pair (.int .i64) (.int .i64)))], [(false, .bool)], false, m50⟩)] [] [] []) ⟨[(0, ⟨[.slot 8 (.d false (.int .i64) true), .slot 9 (.d false .bool true), .slot 44 (.d false (.int .i64) true)], [], [(some 0, [.slot 8 (.d false (.int .i64) true), .slot 9 (.d false .bool true)]), (none, [.slot 6 (.d false (.int .i64) true), .slot 7 (.d false .bool true)])], none⟩), (3, ⟨[.slot 73 (.d false (.int .i64) true)], [], [(some 3, []), (none, [.slot 6 (.d false (.int .i64) true), .slot 7 (.d false .bool true)])], none⟩)], []⟩ Try.f32 [(false, (.int .i64)), (false, (.sl (.pair (.int .i64) (.int .i64)))), (false, (.int .i64))] [(false, (.int .i64)), (false, .bool)] false x
theorem r32_eq : r32 = m32 := by kernel_rfl

theorem c32 : CS.Sound Try.prog 32 ⟨[(false, (.int .i64)), (false, (.sl (.pair (.int .i64) (.int .i64)))), (false, (.int .i64))], [(false, (.int .i64)), (false, .bool)], false, m32⟩ := afun_sound' (envOf_sound (CSs.cons c48 (CSs.cons c50 (CSs.nil))) (HDs.nil) (IDs.nil)) rfl Try.follows (f := 32) (fn := Try.f32) Try.func32 (by kernel_rfl) (by kernel_rfl) r32_eq
end Go.Proofs.Ytefekolpfklhdaa
end

section
/- What function 63 (slipway/slipwayref07.is) computes, by the kernel. -/
open Go Go.Proofs.AM
namespace Go.Proofs.Ytefekolpfklhdaa

noncomputable def m63 (x : (Int × Int) × Unit) : Option (Bool × Unit) :=
  bif (decide (x.1.1 ≥ (0 : Int))) then
    (bif (decide (x.1.1 < (256 : Int))) then
      (bif (decide (x.1.2 ≥ (0 : Int))) then
        (some ((decide (x.1.2 < (32 : Int))), ()))
      else
        (some (false, ())))
    else
      (some (false, ())))
  else
    (some (false, ()))

noncomputable def r63 : PDen [(true, (.pair (.int .i64) (.int .i64)))] → Option (PDen [(false, .bool)]) := fun x => afun Try.prog (envOf [] [] [] []) ⟨[], []⟩ Try.f63 [(true, (.pair (.int .i64) (.int .i64)))] [(false, .bool)] false x
theorem r63_eq : r63 = m63 := by kernel_rfl

theorem c63 : CS.Sound Try.prog 63 ⟨[(true, (.pair (.int .i64) (.int .i64)))], [(false, .bool)], false, m63⟩ := afun_sound' (envOf_sound (CSs.nil) (HDs.nil) (IDs.nil)) rfl Try.follows (f := 63) (fn := Try.f63) Try.func63 (by kernel_rfl) (by kernel_rfl) r63_eq
end Go.Proofs.Ytefekolpfklhdaa
end

section
/- What function 33 (slipway/slipwayref07.Settled) computes, by the kernel. -/
open Go Go.Proofs.AM
namespace Go.Proofs.Ytefekolpfklhdaa

noncomputable def m33 (x : Int × (List (Int × Int)) × Int × Unit) : Option (Int × (Bool × Unit)) :=
  bif (decide (x.1 < (4 : Int))) then
    (some ((0 : Int), (false, ())))
  else
    (bif (decide (x.1 > (32 : Int))) then
      (some ((0 : Int), (false, ())))
    else
      (if x.1 = (0 : Int) then
        (none)
      else
        (bif (!(decide ((Int.tmod (((List.length x.2.1) : Nat) : Int) x.1) = (0 : Int)))) then
          (some ((0 : Int), (false, ())))
        else
          (bif (decide (x.2.2.1 < (0 : Int))) then
            (some ((0 : Int), (false, ())))
          else
            (if x.1 = (0 : Int) then
              (none)
            else
              (bif (decide (x.2.2.1 ≥ (Go.IntKind.wrap .i64 (Int.tdiv (((List.length x.2.1) : Nat) : Int) x.1)))) then
                (some ((0 : Int), (false, ())))
              else
                (Option.bind (loopM (X := (Int × Int)) (E := (Int ⊕ (Int × Bool))) (fun (x1 : (Int × Int)) =>
                    bif (decide (x1.2 < x.1)) then
                      (gd ((0 : Int) ≤ (Go.IntKind.wrap .i64 ((Go.IntKind.wrap .i64 (x.2.2.1 * x.1)) + x1.2))) (gd ((Go.IntKind.wrap .i64 ((Go.IntKind.wrap .i64 (x.2.2.1 * x.1)) + x1.2)) < (((List.length x.2.1) : Nat) : Int)) (Option.bind (m63 ((List.getD x.2.1 (Int.toNat (Go.IntKind.wrap .i64 ((Go.IntKind.wrap .i64 (x.2.2.1 * x.1)) + x1.2))) ((0 : Int), (0 : Int))), ())) fun (y2 : (Bool × Unit)) =>
                          bif (!y2.1) then
                            (some (Sum.inl (x1.1, (Go.IntKind.wrap .i64 (x1.2 + (1 : Int))))))
                          else
                            (bif (!(decide ((List.getD x.2.1 (Int.toNat (Go.IntKind.wrap .i64 ((Go.IntKind.wrap .i64 (x.2.2.1 * x.1)) + x1.2))) ((0 : Int), (0 : Int))).2 = x1.2))) then
                              (some (Sum.inr (Sum.inr ((0 : Int), false))))
                            else
                              (bif (decide (x1.1 ≥ (0 : Int))) then
                                (bif (!(decide ((List.getD x.2.1 (Int.toNat (Go.IntKind.wrap .i64 ((Go.IntKind.wrap .i64 (x.2.2.1 * x.1)) + x1.2))) ((0 : Int), (0 : Int))).1 = x1.1))) then
                                  (some (Sum.inr (Sum.inr ((0 : Int), false))))
                                else
                                  (some (Sum.inl ((List.getD x.2.1 (Int.toNat (Go.IntKind.wrap .i64 ((Go.IntKind.wrap .i64 (x.2.2.1 * x.1)) + x1.2))) ((0 : Int), (0 : Int))).1, (Go.IntKind.wrap .i64 (x1.2 + (1 : Int)))))))
                              else
                                (some (Sum.inl ((List.getD x.2.1 (Int.toNat (Go.IntKind.wrap .i64 ((Go.IntKind.wrap .i64 (x.2.2.1 * x.1)) + x1.2))) ((0 : Int), (0 : Int))).1, (Go.IntKind.wrap .i64 (x1.2 + (1 : Int)))))))))))
                    else
                      (some (Sum.inr (Sum.inl x1.1)))) ((-1 : Int), (0 : Int))) fun (y1 : (Int ⊕ (Int × Bool))) =>
                Sum.elim (fun y2 =>
                  bif (decide (y2 < (0 : Int))) then
                    (some ((0 : Int), (false, ())))
                  else
                    (Option.bind (loopM (X := Int) (E := (Unit ⊕ (Int × Bool))) (fun (x3 : Int) =>
                        bif (decide (x3 < (((List.length x.2.1) : Nat) : Int))) then
                          (if x.1 = (0 : Int) then
                            (none)
                          else
                            (bif (!(decide ((Go.IntKind.wrap .i64 (Int.tdiv x3 x.1)) = x.2.2.1))) then
                              (gd ((0 : Int) ≤ x3) (gd (x3 < (((List.length x.2.1) : Nat) : Int)) (Option.bind (m63 ((List.getD x.2.1 (Int.toNat x3) ((0 : Int), (0 : Int))), ())) fun (y4 : (Bool × Unit)) =>
                                  bif y4.1 then
                                    (gd ((0 : Int) ≤ x3) (gd (x3 < (((List.length x.2.1) : Nat) : Int)) (bif (decide ((List.getD x.2.1 (Int.toNat x3) ((0 : Int), (0 : Int))).1 = y2)) then
                                          (some (Sum.inr (Sum.inr ((0 : Int), false))))
                                        else
                                          (some (Sum.inl (Go.IntKind.wrap .i64 (x3 + (1 : Int))))))))
                                  else
                                    (some (Sum.inl (Go.IntKind.wrap .i64 (x3 + (1 : Int))))))))
                            else
                              (some (Sum.inl (Go.IntKind.wrap .i64 (x3 + (1 : Int)))))))
                        else
                          (some (Sum.inr (Sum.inl ())))) (0 : Int)) fun (y3 : (Unit ⊕ (Int × Bool))) =>
                    Sum.elim (fun y4 =>
                      some (y2, (true, ()))) (fun y4 =>
                      some (y4.1, (y4.2, ()))) y3)) (fun y2 =>
                  some (y2.1, (y2.2, ()))) y1)))))))

noncomputable def r33 : PDen [(false, (.int .i64)), (false, (.sl (.pair (.int .i64) (.int .i64)))), (false, (.int .i64))] → Option (PDen [(false, (.int .i64)), (false, .bool)]) := fun x => afun Try.prog (envOf [(63, ⟨[(true, (.pair (.int .i64) (.int .i64)))], [(false, .bool)], false, m63⟩)] [] [] []) ⟨[(0, ⟨[.slot 8 (.d false (.int .i64) true), .slot 9 (.d false (.int .i64) true)], [], [(some 0, [.slot 8 (.d false (.int .i64) true)]), (none, [.slot 6 (.d false (.int .i64) true), .slot 7 (.d false .bool true)])], none⟩), (2, ⟨[.slot 11 (.d false (.int .i64) true)], [], [(some 2, []), (none, [.slot 6 (.d false (.int .i64) true), .slot 7 (.d false .bool true)])], none⟩)], []⟩ Try.f33 [(false, (.int .i64)), (false, (.sl (.pair (.int .i64) (.int .i64)))), (false, (.int .i64))] [(false, (.int .i64)), (false, .bool)] false x
theorem r33_eq : r33 = m33 := by kernel_rfl

theorem c33 : CS.Sound Try.prog 33 ⟨[(false, (.int .i64)), (false, (.sl (.pair (.int .i64) (.int .i64)))), (false, (.int .i64))], [(false, (.int .i64)), (false, .bool)], false, m33⟩ := afun_sound' (envOf_sound (CSs.cons c63 (CSs.nil)) (HDs.nil) (IDs.nil)) rfl Try.follows (f := 33) (fn := Try.f33) Try.func33 (by kernel_rfl) (by kernel_rfl) r33_eq
end Go.Proofs.Ytefekolpfklhdaa
end

section
/- What function 35 (slices.Equal(()int,int)) computes, by the kernel. -/
open Go Go.Proofs.AM
namespace Go.Proofs.Ytefekolpfklhdaa

noncomputable def m35 (x : (List Int) × (List Int) × Unit) : Option (Bool × Unit) :=
  bif (!(decide ((((List.length x.1) : Nat) : Int) = (((List.length x.2.1) : Nat) : Int)))) then
    (some (false, ()))
  else
    (Option.bind (loopM (X := Int) (E := (Unit ⊕ Bool)) (fun (x1 : Int) =>
        bif (decide (x1 < (((List.length x.1) : Nat) : Int))) then
          (gd ((0 : Int) ≤ x1) (gd (x1 < (((List.length x.1) : Nat) : Int)) (gd ((0 : Int) ≤ x1) (gd (x1 < (((List.length x.2.1) : Nat) : Int)) (bif (!(decide ((List.getD x.1 (Int.toNat x1) (0 : Int)) = (List.getD x.2.1 (Int.toNat x1) (0 : Int))))) then
                    (some (Sum.inr (Sum.inr false)))
                  else
                    (some (Sum.inl (Go.IntKind.wrap .i64 (x1 + (1 : Int))))))))))
        else
          (some (Sum.inr (Sum.inl ())))) (0 : Int)) fun (y1 : (Unit ⊕ Bool)) =>
    Sum.elim (fun y2 =>
      some (true, ())) (fun y2 =>
      some (y2, ())) y1)

noncomputable def r35 : PDen [(false, (.sl (.int .i64))), (false, (.sl (.int .i64)))] → Option (PDen [(false, .bool)]) := fun x => afun Try.prog (envOf [] [] [] []) ⟨[(0, ⟨[.slot 13 (.d false (.int .i64) true)], [], [(some 0, []), (none, [.slot 4 (.d false .bool true)])], none⟩)], []⟩ Try.f35 [(false, (.sl (.int .i64))), (false, (.sl (.int .i64)))] [(false, .bool)] false x
theorem r35_eq : r35 = m35 := by kernel_rfl

theorem c35 : CS.Sound Try.prog 35 ⟨[(false, (.sl (.int .i64))), (false, (.sl (.int .i64)))], [(false, .bool)], false, m35⟩ := afun_sound' (envOf_sound (CSs.nil) (HDs.nil) (IDs.nil)) rfl Try.follows (f := 35) (fn := Try.f35) Try.func35 (by kernel_rfl) (by kernel_rfl) r35_eq
end Go.Proofs.Ytefekolpfklhdaa
end

section
/-
  DERIVED: THE SHELF's CONTRACTS AT THIS DUMP, IN PLAIN WORDS (tools/lay-plain.mjs out of 'YtefekolpfklhdaaLayS.lean', which tools/lay-shelf.mjs wrote): THE SAME DECLARATIONS UNDER THE SAME NAMES: 'import', 'namespace', 'open', 'def', 'theorem' AND NOTHING ELSE: no command of the shelf's: FOR A HAND-IN. Each laying: the table of numbers ('.._ren') and one theorem, a field a fact of the dump's own or the kernel's comparison; each contract: ONE APPLICATION.
-/
namespace Go.Proofs
open Go.Shelf
def Try.sortInt_ren : Go.Shelf.Ren := ⟨fun | 189 => 85 | 125 => 103 | 257 => 102 | 128 => 117 | 129 => 118 | 294 => 108 | 295 => 109 | 296 => 110 | 297 => 111 | 298 => 112 | 299 => 113 | 216 => 114 | 300 => 115 | 301 => 116 | 328 => 120 | 329 => 121 | 330 => 122 | 331 => 123 | 332 => 124 | 215 => 125 | 343 => 126 | n => n, fun | 28 => 49 | 3 => 3 | 46 => 115 | 0 => 0 | 51 => 136 | 53 => 125 | 4 => 4 | 183 => 158 | 182 => 157 | 131 => 74 | 5 => 5 | 9 => 9 | 218 => 167 | 222 => 171 | 228 => 173 | 229 => 174 | n => n, fun | n => n⟩
theorem Try.sortInt : Go.Proofs.Lays.n189 Try.prog Try.sortInt_ren := {
  mixed := by kernel_rfl
  f125 := Try.func103.trans (congrArg some (by kernel_rfl))
  f128 := Try.func117.trans (congrArg some (by kernel_rfl))
  f129 := Try.func118.trans (congrArg some (by kernel_rfl))
  f189 := Try.func85.trans (congrArg some (by kernel_rfl))
  f215 := Try.func125.trans (congrArg some (by kernel_rfl))
  f216 := Try.func114.trans (congrArg some (by kernel_rfl))
  f257 := Try.func102.trans (congrArg some (by kernel_rfl))
  f294 := Try.func108.trans (congrArg some (by kernel_rfl))
  f295 := Try.func109.trans (congrArg some (by kernel_rfl))
  f296 := Try.func110.trans (congrArg some (by kernel_rfl))
  f297 := Try.func111.trans (congrArg some (by kernel_rfl))
  f298 := Try.func112.trans (congrArg some (by kernel_rfl))
  f299 := Try.func113.trans (congrArg some (by kernel_rfl))
  f300 := Try.func115.trans (congrArg some (by kernel_rfl))
  f301 := Try.func116.trans (congrArg some (by kernel_rfl))
  f328 := Try.func120.trans (congrArg some (by kernel_rfl))
  f329 := Try.func121.trans (congrArg some (by kernel_rfl))
  f330 := Try.func122.trans (congrArg some (by kernel_rfl))
  f331 := Try.func123.trans (congrArg some (by kernel_rfl))
  f332 := Try.func124.trans (congrArg some (by kernel_rfl))
  f343 := Try.func126.trans (congrArg some (by kernel_rfl))
  t0 := Try.underlying0
  a0 := Try.isAgg0
  z0 := Try.sizeOf0
  v0 := Try.zeroValue0
  t3 := Try.underlying3
  a3 := Try.isAgg3
  z3 := Try.sizeOf3
  v3 := Try.zeroValue3
  t4 := Try.underlying4
  a4 := Try.isAgg4
  z4 := Try.sizeOf4
  v4 := Try.zeroValue4
  t5 := Try.underlying5
  a5 := Try.isAgg5
  z5 := Try.sizeOf5
  v5 := Try.zeroValue5
  t9 := Try.underlying9
  a9 := Try.isAgg9
  z9 := Try.sizeOf9
  v9 := Try.zeroValue9
  t28 := Try.underlying49
  a28 := Try.isAgg49
  z28 := Try.sizeOf49
  v28 := Try.zeroValue49
  t46 := Try.underlying115
  a46 := Try.isAgg115
  z46 := Try.sizeOf115
  v46 := Try.zeroValue115
  t51 := Try.underlying136
  a51 := Try.isAgg136
  z51 := Try.sizeOf136
  v51 := Try.zeroValue136
  t53 := Try.underlying125
  a53 := Try.isAgg125
  z53 := Try.sizeOf125
  v53 := Try.zeroValue125
  t131 := Try.underlying74
  a131 := Try.isAgg74
  z131 := Try.sizeOf74
  v131 := Try.zeroValue74
  t182 := Try.underlying157
  a182 := Try.isAgg157
  z182 := Try.sizeOf157
  v182 := Try.zeroValue157
  t183 := Try.underlying158
  a183 := Try.isAgg158
  z183 := Try.sizeOf158
  v183 := Try.zeroValue158
  t218 := Try.underlying167
  a218 := Try.isAgg167
  z218 := Try.sizeOf167
  v218 := Try.zeroValue167
  t222 := Try.underlying171
  a222 := Try.isAgg171
  z222 := Try.sizeOf171
  v222 := Try.zeroValue171
  t228 := Try.underlying173
  a228 := Try.isAgg173
  z228 := Try.sizeOf173
  v228 := Try.zeroValue173
  t229 := Try.underlying174
  a229 := Try.isAgg174
  z229 := Try.sizeOf174
  v229 := Try.zeroValue174 }
def Try.compactInt_ren : Go.Shelf.Ren := ⟨fun | 20 => 86 | n => n, fun | 22 => 49 | 3 => 3 | 4 => 4 | 0 => 0 | n => n, fun | n => n⟩
theorem Try.compactInt : Go.Proofs.Lays2.n20 Try.prog Try.compactInt_ren := {
  mixed := by kernel_rfl
  f20 := Try.func86.trans (congrArg some (by kernel_rfl))
  t0 := Try.underlying0
  a0 := Try.isAgg0
  z0 := Try.sizeOf0
  v0 := Try.zeroValue0
  t3 := Try.underlying3
  a3 := Try.isAgg3
  z3 := Try.sizeOf3
  v3 := Try.zeroValue3
  t4 := Try.underlying4
  a4 := Try.isAgg4
  z4 := Try.sizeOf4
  v4 := Try.zeroValue4
  t22 := Try.underlying49
  a22 := Try.isAgg49
  z22 := Try.sizeOf49
  v22 := Try.zeroValue49
  i3 := by kernel_rfl }
end Go.Proofs
end

section
/- slices.Sort and slices.Compact of numbers, at this program. No condition. -/
open Go Go.Proofs.AM
namespace Go.Proofs.Ytefekolpfklhdaa
theorem s85 : (sortIHD 3).Sound Try.prog 85 := sortIHD_sound Try.sortInt rfl (fun args w => enters_of Try.func85 (by kernel_rfl) rfl args w)
theorem s86 : (compactIHD 3).Sound Try.prog 86 := compactIHD_sound Try.compactInt rfl (fun args w => enters_of Try.func86 (by kernel_rfl) rfl args w)
end Go.Proofs.Ytefekolpfklhdaa
end

section
/- What function 36 (slipway/slipwaylaw07.blocks) computes, by the kernel. -/
open Go Go.Proofs.AM
namespace Go.Proofs.Ytefekolpfklhdaa

noncomputable def m36 (x : (List (Int × Int)) × Unit) : Option ((List Int) × Unit) :=
  Option.bind (loopM (X := (Int × (List Int))) (E := (List Int)) (fun (x1 : (Int × (List Int))) =>
      bif (decide (x1.1 < (((List.length x.1) : Nat) : Int))) then
        (gd ((0 : Int) ≤ x1.1) (gd (x1.1 < (((List.length x.1) : Nat) : Int)) (Option.bind (m50 ((List.getD x.1 (Int.toNat x1.1) ((0 : Int), (0 : Int))), ())) fun (y2 : (Bool × Unit)) =>
            bif y2.1 then
              (gd ((((List.length x1.2) + (List.length ((List.getD x.1 (Int.toNat x1.1) ((0 : Int), (0 : Int))).1 :: ([] : List Int)))) * 8) ≤ 140737488355328) (gd (((List.length x1.2) + (List.length ((List.getD x.1 (Int.toNat x1.1) ((0 : Int), (0 : Int))).1 :: ([] : List Int)))) ≤ 140737488355328) (some (Sum.inl ((Go.IntKind.wrap .i64 (x1.1 + (1 : Int))), (x1.2 ++ ((List.getD x.1 (Int.toNat x1.1) ((0 : Int), (0 : Int))).1 :: ([] : List Int))))))))
            else
              (some (Sum.inl ((Go.IntKind.wrap .i64 (x1.1 + (1 : Int))), x1.2))))))
      else
        (some (Sum.inr x1.2))) ((0 : Int), ([] : List Int))) fun (y1 : (List Int)) =>
  Option.bind (gd ((List.length y1) ≤ 140737488355328) (some (sortI y1))) fun (y2 : (List Int)) =>
  Option.bind (gd ((List.length y2) ≤ 140737488355328) (some (compactI y2))) fun (y3 : (List Int)) =>
  Option.bind (loopM (X := (Int × (List Int))) (E := (List Int)) (fun (x4 : (Int × (List Int))) =>
      bif (decide (x4.1 < (((List.length y3) : Nat) : Int))) then
        (gd ((0 : Int) ≤ x4.1) (gd (x4.1 < (((List.length y3) : Nat) : Int)) (gd ((Int.toNat x4.1) < (List.length y3)) (gd ((((List.length x4.2) + (List.length ((List.getD y3 (Int.toNat x4.1) (0 : Int)) :: ([] : List Int)))) * 8) ≤ 140737488355328) (gd (((List.length x4.2) + (List.length ((List.getD y3 (Int.toNat x4.1) (0 : Int)) :: ([] : List Int)))) ≤ 140737488355328) (some (Sum.inl ((Go.IntKind.wrap .i64 (x4.1 + (1 : Int))), (x4.2 ++ ((List.getD y3 (Int.toNat x4.1) (0 : Int)) :: ([] : List Int)))))))))))
      else
        (some (Sum.inr x4.2))) ((0 : Int), ([] : List Int))) fun (y4 : (List Int)) =>
  some (y4, ())

noncomputable def i36_65 : ID := aInl Try.prog (envOf [(50, ⟨[(true, (.pair (.int .i64) (.int .i64)))], [(false, .bool)], false, m50⟩)] [(85, sortIHD 3), (86, compactIHD 3)] [] []) ⟨[(2000, ⟨[.slot 8 (.d false (.int .i64) true), .cell 0 0 (.v 3 (.int .i64) true)], [], [(some 0, [.cell 0 0 (.v 3 (.int .i64) true)])], none⟩)], []⟩ Try.f65
noncomputable def i36_87 : ID := aInl Try.prog (envOf [] [] [] []) ⟨[(7000, ⟨[.slot 7 (.d false (.int .i64) true), .cell 3 0 (.v 3 (.int .i64) true)], [], [(some 0, [.cell 3 0 (.v 3 (.int .i64) true)])], none⟩)], []⟩ Try.f87
noncomputable def r36 : PDen [(false, (.sl (.pair (.int .i64) (.int .i64))))] → Option (PDen [(false, (.sl (.int .i64)))]) := fun x => afun Try.prog (envOf [] [] [] [(65, i36_65), (87, i36_87)]) ⟨[], []⟩ Try.f36 [(false, (.sl (.pair (.int .i64) (.int .i64))))] [(false, (.sl (.int .i64)))] false x
theorem r36_eq : r36 = m36 := by kernel_rfl

theorem i36_65_sound : i36_65.Sound Try.prog 65 := aInl_sound' (envOf_sound (CSs.cons c50 (CSs.nil)) (HDs.cons s85 (HDs.cons s86 (HDs.nil))) (IDs.nil)) Try.follows (f := 65) (fn := Try.f65) Try.func65 (by kernel_rfl) (by kernel_rfl)
theorem i36_87_sound : i36_87.Sound Try.prog 87 := aInl_sound' (envOf_sound (CSs.nil) (HDs.nil) (IDs.nil)) Try.follows (f := 87) (fn := Try.f87) Try.func87 (by kernel_rfl) (by kernel_rfl)
theorem c36 : CS.Sound Try.prog 36 ⟨[(false, (.sl (.pair (.int .i64) (.int .i64))))], [(false, (.sl (.int .i64)))], false, m36⟩ := afun_sound' (envOf_sound (CSs.nil) (HDs.nil) (IDs.cons i36_65_sound (IDs.cons i36_87_sound (IDs.nil)))) rfl Try.follows (f := 36) (fn := Try.f36) Try.func36 (by kernel_rfl) (by kernel_rfl) r36_eq
end Go.Proofs.Ytefekolpfklhdaa
end

section
/- What function 37 (slipway/slipwayref07.Needed) computes, by the kernel. -/
open Go Go.Proofs.AM
namespace Go.Proofs.Ytefekolpfklhdaa

noncomputable def m37 (x : (List (Int × Int)) × Unit) : Option ((List Int) × Unit) :=
  gd (((256 : Int) * (1 : Int)) ≤ (140737488355328 : Int)) (Option.bind (loopM (X := (Int × (List Bool))) (E := (List Bool)) (fun (x1 : (Int × (List Bool))) =>
        bif (decide (x1.1 < (((List.length x.1) : Nat) : Int))) then
          (gd ((0 : Int) ≤ x1.1) (gd (x1.1 < (((List.length x.1) : Nat) : Int)) (Option.bind (m63 ((List.getD x.1 (Int.toNat x1.1) ((0 : Int), (0 : Int))), ())) fun (y2 : (Bool × Unit)) =>
              bif y2.1 then
                (gd ((0 : Int) ≤ x1.1) (gd (x1.1 < (((List.length x.1) : Nat) : Int)) (gd ((0 : Int) ≤ (List.getD x.1 (Int.toNat x1.1) ((0 : Int), (0 : Int))).1) (gd ((List.getD x.1 (Int.toNat x1.1) ((0 : Int), (0 : Int))).1 < (((List.length x1.2) : Nat) : Int)) (gd ((Int.toNat (List.getD x.1 (Int.toNat x1.1) ((0 : Int), (0 : Int))).1) < (List.length x1.2)) (some (Sum.inl ((Go.IntKind.wrap .i64 (x1.1 + (1 : Int))), (List.set x1.2 (Int.toNat (List.getD x.1 (Int.toNat x1.1) ((0 : Int), (0 : Int))).1) true)))))))))
              else
                (some (Sum.inl ((Go.IntKind.wrap .i64 (x1.1 + (1 : Int))), x1.2))))))
        else
          (some (Sum.inr x1.2))) ((0 : Int), (List.replicate (Int.toNat (256 : Int)) false))) fun (y1 : (List Bool)) =>
    Option.bind (loopM (X := ((List Int) × Int)) (E := (List Int)) (fun (x2 : ((List Int) × Int)) =>
        bif (decide (x2.2 < (((List.length y1) : Nat) : Int))) then
          (gd ((0 : Int) ≤ x2.2) (gd (x2.2 < (((List.length y1) : Nat) : Int)) (gd ((Int.toNat x2.2) < (List.length y1)) (bif (List.getD y1 (Int.toNat x2.2) false) then
                  (gd ((((List.length x2.1) + (List.length (x2.2 :: ([] : List Int)))) * 8) ≤ 140737488355328) (gd (((List.length x2.1) + (List.length (x2.2 :: ([] : List Int)))) ≤ 140737488355328) (some (Sum.inl ((x2.1 ++ (x2.2 :: ([] : List Int))), (Go.IntKind.wrap .i64 (x2.2 + (1 : Int))))))))
                else
                  (some (Sum.inl (x2.1, (Go.IntKind.wrap .i64 (x2.2 + (1 : Int))))))))))
        else
          (some (Sum.inr x2.1))) (([] : List Int), (0 : Int))) fun (y2 : (List Int)) =>
    some (y2, ()))

noncomputable def r37 : PDen [(false, (.sl (.pair (.int .i64) (.int .i64))))] → Option (PDen [(false, (.sl (.int .i64)))]) := fun x => afun Try.prog (envOf [(63, ⟨[(true, (.pair (.int .i64) (.int .i64)))], [(false, .bool)], false, m63⟩)] [] [] []) ⟨[(0, ⟨[.slot 4 (.d false (.int .i64) true), .vec 0 4 .bool true], [], [(some 0, [.vec 0 4 .bool true])], none⟩), (2, ⟨[.slot 5 (.v 3 (.int .i64) true), .slot 6 (.d false (.int .i64) true)], [], [(some 2, [.slot 5 (.v 3 (.int .i64) true)])], none⟩)], []⟩ Try.f37 [(false, (.sl (.pair (.int .i64) (.int .i64))))] [(false, (.sl (.int .i64)))] false x
theorem r37_eq : r37 = m37 := by kernel_rfl

theorem c37 : CS.Sound Try.prog 37 ⟨[(false, (.sl (.pair (.int .i64) (.int .i64))))], [(false, (.sl (.int .i64)))], false, m37⟩ := afun_sound' (envOf_sound (CSs.cons c63 (CSs.nil)) (HDs.nil) (IDs.nil)) rfl Try.follows (f := 37) (fn := Try.f37) Try.func37 (by kernel_rfl) (by kernel_rfl) r37_eq
end Go.Proofs.Ytefekolpfklhdaa
end

section
/- What function 25 (slipway/scan.Table) computes, by the kernel. -/
open Go Go.Proofs.AM
namespace Go.Proofs.Ytefekolpfklhdaa

noncomputable def m25 (x : Int × Int × Int × (List (Int × Int)) × Unit) : Option ((Int × (Int × (Int × ((List Int) × ((List Bool) × ((Int × (Int × Int)) × (List (Int × (List Int))))))))) × ((List Int) × (Int × Unit))) :=
  Option.bind (m38 (x.1, (x.2.1, (x.2.2.1, ())))) fun (y1 : ((Int × (Int × (Int × ((List Int) × ((List Bool) × ((Int × (Int × Int)) × (List (Int × (List Int))))))))) × (Int × Unit))) =>
  bif (!(decide (y1.2.1 = (0 : Int)))) then
    (some (((0 : Int), ((0 : Int), ((0 : Int), (([] : List Int), (([] : List Bool), (((0 : Int), ((0 : Int), (0 : Int))), ([] : List (Int × (List Int))))))))), (([] : List Int), (y1.2.1, ()))))
  else
    (bif (!(decide ((((List.length x.2.2.2.1) : Nat) : Int) = (Go.IntKind.wrap .i64 (x.2.1 * x.1))))) then
      (some (((0 : Int), ((0 : Int), ((0 : Int), (([] : List Int), (([] : List Bool), (((0 : Int), ((0 : Int), (0 : Int))), ([] : List (Int × (List Int))))))))), (([] : List Int), ((1 : Int), ()))))
    else
      (Option.bind (loopM (X := ((List Int) × (Int × ((List Int) × (List Bool))))) (E := ((List Int) × ((List Int) × (List Bool)))) (fun (x2 : ((List Int) × (Int × ((List Int) × (List Bool))))) =>
          bif (decide (x2.2.1 < x.2.1)) then
            (gd ((0 : Int) ≤ (Go.IntKind.wrap .i64 (x2.2.1 * x.1))) (gd ((Go.IntKind.wrap .i64 (x2.2.1 * x.1)) ≤ (Go.IntKind.wrap .i64 ((Go.IntKind.wrap .i64 (x2.2.1 + (1 : Int))) * x.1))) (gd ((Go.IntKind.wrap .i64 ((Go.IntKind.wrap .i64 (x2.2.1 + (1 : Int))) * x.1)) ≤ (((List.length x.2.2.2.1) : Nat) : Int)) (Option.bind (m32 (x.1, (x.2.2.2.1, (x2.2.1, ())))) fun (y3 : (Int × (Bool × Unit))) =>
                  bif y3.2.1 then
                    (gd ((0 : Int) ≤ x2.2.1) (gd (x2.2.1 < (((List.length x2.2.2.1) : Nat) : Int)) (gd ((Int.toNat x2.2.1) < (List.length x2.2.2.1)) (Option.bind (loopM (X := (Int × (List Bool))) (E := (List Bool)) (fun (x4 : (Int × (List Bool))) =>
                              bif (decide (x4.1 < (((List.length (List.take ((Int.toNat (Go.IntKind.wrap .i64 ((Go.IntKind.wrap .i64 (x2.2.1 + (1 : Int))) * x.1))) - (Int.toNat (Go.IntKind.wrap .i64 (x2.2.1 * x.1)))) (List.drop (Int.toNat (Go.IntKind.wrap .i64 (x2.2.1 * x.1))) x.2.2.2.1))) : Nat) : Int))) then
                                (gd ((0 : Int) ≤ x4.1) (gd (x4.1 < (((List.length (List.take ((Int.toNat (Go.IntKind.wrap .i64 ((Go.IntKind.wrap .i64 (x2.2.1 + (1 : Int))) * x.1))) - (Int.toNat (Go.IntKind.wrap .i64 (x2.2.1 * x.1)))) (List.drop (Int.toNat (Go.IntKind.wrap .i64 (x2.2.1 * x.1))) x.2.2.2.1))) : Nat) : Int)) (Option.bind (m50 ((List.getD (List.take ((Int.toNat (Go.IntKind.wrap .i64 ((Go.IntKind.wrap .i64 (x2.2.1 + (1 : Int))) * x.1))) - (Int.toNat (Go.IntKind.wrap .i64 (x2.2.1 * x.1)))) (List.drop (Int.toNat (Go.IntKind.wrap .i64 (x2.2.1 * x.1))) x.2.2.2.1)) (Int.toNat x4.1) ((0 : Int), (0 : Int))), ())) fun (y5 : (Bool × Unit)) =>
                                    gd ((0 : Int) ≤ (Go.IntKind.wrap .i64 ((Go.IntKind.wrap .i64 (x2.2.1 * x.1)) + x4.1))) (gd ((Go.IntKind.wrap .i64 ((Go.IntKind.wrap .i64 (x2.2.1 * x.1)) + x4.1)) < (((List.length x4.2) : Nat) : Int)) (gd ((Int.toNat (Go.IntKind.wrap .i64 ((Go.IntKind.wrap .i64 (x2.2.1 * x.1)) + x4.1))) < (List.length x4.2)) (some (Sum.inl ((Go.IntKind.wrap .i64 (x4.1 + (1 : Int))), (List.set x4.2 (Int.toNat (Go.IntKind.wrap .i64 ((Go.IntKind.wrap .i64 (x2.2.1 * x.1)) + x4.1))) y5.1)))))))))
                              else
                                (some (Sum.inr x4.2))) ((0 : Int), x2.2.2.2)) fun (y4 : (List Bool)) =>
                          some (Sum.inl (x2.1, ((Go.IntKind.wrap .i64 (x2.2.1 + (1 : Int))), ((List.set x2.2.2.1 (Int.toNat x2.2.1) y3.1), y4))))))))
                  else
                    (Option.bind (loopM (X := Int) (E := (Unit ⊕ Int)) (fun (x4 : Int) =>
                        bif (decide (x4 < (((List.length (List.take ((Int.toNat (Go.IntKind.wrap .i64 ((Go.IntKind.wrap .i64 (x2.2.1 + (1 : Int))) * x.1))) - (Int.toNat (Go.IntKind.wrap .i64 (x2.2.1 * x.1)))) (List.drop (Int.toNat (Go.IntKind.wrap .i64 (x2.2.1 * x.1))) x.2.2.2.1))) : Nat) : Int))) then
                          (gd ((0 : Int) ≤ x4) (gd (x4 < (((List.length (List.take ((Int.toNat (Go.IntKind.wrap .i64 ((Go.IntKind.wrap .i64 (x2.2.1 + (1 : Int))) * x.1))) - (Int.toNat (Go.IntKind.wrap .i64 (x2.2.1 * x.1)))) (List.drop (Int.toNat (Go.IntKind.wrap .i64 (x2.2.1 * x.1))) x.2.2.2.1))) : Nat) : Int)) (Option.bind (m50 ((List.getD (List.take ((Int.toNat (Go.IntKind.wrap .i64 ((Go.IntKind.wrap .i64 (x2.2.1 + (1 : Int))) * x.1))) - (Int.toNat (Go.IntKind.wrap .i64 (x2.2.1 * x.1)))) (List.drop (Int.toNat (Go.IntKind.wrap .i64 (x2.2.1 * x.1))) x.2.2.2.1)) (Int.toNat x4) ((0 : Int), (0 : Int))), ())) fun (y5 : (Bool × Unit)) =>
                              bif y5.1 then
                                (some (Sum.inr (Sum.inr x4)))
                              else
                                (some (Sum.inl (Go.IntKind.wrap .i64 (x4 + (1 : Int))))))))
                        else
                          (some (Sum.inr (Sum.inl ())))) (0 : Int)) fun (y4 : (Unit ⊕ Int)) =>
                    Sum.elim (fun y5 =>
                      bif (decide ((-1 : Int) ≥ (0 : Int))) then
                        (gd ((((List.length x2.1) + (List.length (x2.2.1 :: ([] : List Int)))) * 8) ≤ 140737488355328) (gd (((List.length x2.1) + (List.length (x2.2.1 :: ([] : List Int)))) ≤ 140737488355328) (some (Sum.inl ((x2.1 ++ (x2.2.1 :: ([] : List Int))), ((Go.IntKind.wrap .i64 (x2.2.1 + (1 : Int))), (x2.2.2.1, x2.2.2.2)))))))
                      else
                        (some (Sum.inl (x2.1, ((Go.IntKind.wrap .i64 (x2.2.1 + (1 : Int))), (x2.2.2.1, x2.2.2.2)))))) (fun y5 =>
                      bif (decide (y5 ≥ (0 : Int))) then
                        (gd ((((List.length x2.1) + (List.length (x2.2.1 :: ([] : List Int)))) * 8) ≤ 140737488355328) (gd (((List.length x2.1) + (List.length (x2.2.1 :: ([] : List Int)))) ≤ 140737488355328) (some (Sum.inl ((x2.1 ++ (x2.2.1 :: ([] : List Int))), ((Go.IntKind.wrap .i64 (x2.2.1 + (1 : Int))), (x2.2.2.1, x2.2.2.2)))))))
                      else
                        (some (Sum.inl (x2.1, ((Go.IntKind.wrap .i64 (x2.2.1 + (1 : Int))), (x2.2.2.1, x2.2.2.2)))))) y4)))))
          else
            (some (Sum.inr (x2.1, (x2.2.2.1, x2.2.2.2))))) (([] : List Int), ((0 : Int), (y1.1.2.2.2.1, y1.1.2.2.2.2.1)))) fun (y2 : ((List Int) × ((List Int) × (List Bool)))) =>
      some ((y1.1.1, (y1.1.2.1, (y1.1.2.2.1, (y2.2.1, (y2.2.2, y1.1.2.2.2.2.2))))), (y2.1, ((0 : Int), ())))))

noncomputable def i25_72 : ID := aInl Try.prog (envOf [(50, ⟨[(true, (.pair (.int .i64) (.int .i64)))], [(false, .bool)], false, m50⟩)] [] [] []) ⟨[(6000, ⟨[.slot 8 (.d false (.int .i64) true)], [], [(some 0, []), (none, [.slot 4 (.d false (.int .i64) true)])], none⟩)], []⟩ Try.f72
noncomputable def i25_54 : ID := aInl Try.prog (envOf [] [] [] [(72, i25_72)]) ⟨[], []⟩ Try.f54
noncomputable def r25 : PDen [(false, (.int .i64)), (false, (.int .i64)), (false, (.int .i64)), (false, (.sl (.pair (.int .i64) (.int .i64))))] → Option (PDen [(true, (.pair (.int .i64) (.pair (.int .i64) (.pair (.int .i64) (.pair (.sl (.int .i64)) (.pair (.sl .bool) (.pair (.pair (.int .i64) (.pair (.int .i64) (.int .i64))) (.sl (.pair (.int .i64) (.sl (.int .i64))))))))))), (false, (.sl (.int .i64))), (false, (.int .i64))]) := fun x => afunM Try.prog (envOf [(32, ⟨[(false, (.int .i64)), (false, (.sl (.pair (.int .i64) (.int .i64)))), (false, (.int .i64))], [(false, (.int .i64)), (false, .bool)], false, m32⟩), (50, ⟨[(true, (.pair (.int .i64) (.int .i64)))], [(false, .bool)], false, m50⟩)] [(38, OM.hd ⟨[(false, (.int .i64)), (false, (.int .i64)), (false, (.int .i64))], [(true, (.pair (.int .i64) (.pair (.int .i64) (.pair (.int .i64) (.pair (.sl (.int .i64)) (.pair (.sl .bool) (.pair (.pair (.int .i64) (.pair (.int .i64) (.int .i64))) (.sl (.pair (.int .i64) (.sl (.int .i64))))))))))), (false, (.int .i64))], [(.p .d (.p .d (.p .d (.p (.s 3) (.p (.s 4) .d))))), .d], false, m38⟩)] [] [(54, i25_54)]) ⟨[(0, ⟨[.slot 13 (.v 3 (.int .i64) true), .slot 39 (.d false (.int .i64) true), .vec 1 3 (.int .i64) true, .vec 2 4 .bool true], [], [(some 0, [.slot 13 (.v 3 (.int .i64) true), .vec 1 3 (.int .i64) true, .vec 2 4 .bool true])], none⟩), (3, ⟨[.slot 67 (.d false (.int .i64) true), .vec 2 4 .bool true], [], [(some 3, [.vec 2 4 .bool true])], none⟩)], []⟩ Try.f25 [(false, (.int .i64)), (false, (.int .i64)), (false, (.int .i64)), (false, (.sl (.pair (.int .i64) (.int .i64))))] [(true, (.pair (.int .i64) (.pair (.int .i64) (.pair (.int .i64) (.pair (.sl (.int .i64)) (.pair (.sl .bool) (.pair (.pair (.int .i64) (.pair (.int .i64) (.int .i64))) (.sl (.pair (.int .i64) (.sl (.int .i64))))))))))), (false, (.sl (.int .i64))), (false, (.int .i64))] [(.p .d (.p .d (.p .d (.p (.s 3) (.p (.s 4) .d))))), (.s 3), .d] false x
theorem r25_eq : r25 = m25 := by kernel_rfl

theorem i25_72_sound : i25_72.Sound Try.prog 72 := aInl_sound' (envOf_sound (CSs.cons c50 (CSs.nil)) (HDs.nil) (IDs.nil)) Try.follows (f := 72) (fn := Try.f72) Try.func72 (by kernel_rfl) (by kernel_rfl)
theorem i25_54_sound : i25_54.Sound Try.prog 54 := aInl_sound' (envOf_sound (CSs.nil) (HDs.nil) (IDs.cons i25_72_sound (IDs.nil))) Try.follows (f := 54) (fn := Try.f54) Try.func54 (by kernel_rfl) (by kernel_rfl)
theorem c25 : OM.Sound Try.prog 25 ⟨[(false, (.int .i64)), (false, (.int .i64)), (false, (.int .i64)), (false, (.sl (.pair (.int .i64) (.int .i64))))], [(true, (.pair (.int .i64) (.pair (.int .i64) (.pair (.int .i64) (.pair (.sl (.int .i64)) (.pair (.sl .bool) (.pair (.pair (.int .i64) (.pair (.int .i64) (.int .i64))) (.sl (.pair (.int .i64) (.sl (.int .i64))))))))))), (false, (.sl (.int .i64))), (false, (.int .i64))], [(.p .d (.p .d (.p .d (.p (.s 3) (.p (.s 4) .d))))), (.s 3), .d], false, m25⟩ := afunM_sound' (envOf_sound (CSs.cons c32 (CSs.cons c50 (CSs.nil))) (HDs.cons (OM.Sound.hd c38) (HDs.nil)) (IDs.cons i25_54_sound (IDs.nil))) rfl Try.follows (f := 25) (fn := Try.f25) Try.func25 (by kernel_rfl) (by kernel_rfl) r25_eq
end Go.Proofs.Ytefekolpfklhdaa
end

section
/- What function 64 (slipway/slipwayref07.some) computes, by the kernel. -/
open Go Go.Proofs.AM
namespace Go.Proofs.Ytefekolpfklhdaa

noncomputable def m64 (x : Int × (List (Int × Int)) × Int × Unit) : Option (Bool × Unit) :=
  Option.bind (loopM (X := Int) (E := (Unit ⊕ Bool)) (fun (x1 : Int) =>
      bif (decide (x1 < x.1)) then
        (gd ((0 : Int) ≤ (Go.IntKind.wrap .i64 ((Go.IntKind.wrap .i64 (x.2.2.1 * x.1)) + x1))) (gd ((Go.IntKind.wrap .i64 ((Go.IntKind.wrap .i64 (x.2.2.1 * x.1)) + x1)) < (((List.length x.2.1) : Nat) : Int)) (Option.bind (m63 ((List.getD x.2.1 (Int.toNat (Go.IntKind.wrap .i64 ((Go.IntKind.wrap .i64 (x.2.2.1 * x.1)) + x1))) ((0 : Int), (0 : Int))), ())) fun (y2 : (Bool × Unit)) =>
            bif y2.1 then
              (some (Sum.inr (Sum.inr true)))
            else
              (some (Sum.inl (Go.IntKind.wrap .i64 (x1 + (1 : Int))))))))
      else
        (some (Sum.inr (Sum.inl ())))) (0 : Int)) fun (y1 : (Unit ⊕ Bool)) =>
  Sum.elim (fun y2 =>
    some (false, ())) (fun y2 =>
    some (y2, ())) y1

noncomputable def r64 : PDen [(false, (.int .i64)), (false, (.sl (.pair (.int .i64) (.int .i64)))), (false, (.int .i64))] → Option (PDen [(false, .bool)]) := fun x => afun Try.prog (envOf [(63, ⟨[(true, (.pair (.int .i64) (.int .i64)))], [(false, .bool)], false, m63⟩)] [] [] []) ⟨[(0, ⟨[.slot 7 (.d false (.int .i64) true)], [], [(some 0, []), (none, [.slot 6 (.d false .bool true)])], none⟩)], []⟩ Try.f64 [(false, (.int .i64)), (false, (.sl (.pair (.int .i64) (.int .i64)))), (false, (.int .i64))] [(false, .bool)] false x
theorem r64_eq : r64 = m64 := by kernel_rfl

theorem c64 : CS.Sound Try.prog 64 ⟨[(false, (.int .i64)), (false, (.sl (.pair (.int .i64) (.int .i64)))), (false, (.int .i64))], [(false, .bool)], false, m64⟩ := afun_sound' (envOf_sound (CSs.cons c63 (CSs.nil)) (HDs.nil) (IDs.nil)) rfl Try.follows (f := 64) (fn := Try.f64) Try.func64 (by kernel_rfl) (by kernel_rfl) r64_eq
end Go.Proofs.Ytefekolpfklhdaa
end

section
/- What function 43 (slipway/slipwayref05.New) computes, by the kernel. -/
open Go Go.Proofs.AM
namespace Go.Proofs.Ytefekolpfklhdaa

noncomputable def m43 (x : Int × Int × Int × Unit) : Option ((Int × (Int × (Int × ((List Int) × ((List Bool) × ((Int × (Int × Int)) × (List (Int × (List Int))))))))) × (Int × Unit)) :=
  bif (decide (x.1 < (4 : Int))) then
    (some (((0 : Int), ((0 : Int), ((0 : Int), (([] : List Int), (([] : List Bool), (((0 : Int), ((0 : Int), (0 : Int))), ([] : List (Int × (List Int))))))))), ((1 : Int), ())))
  else
    (bif (decide (x.1 > (32 : Int))) then
      (some (((0 : Int), ((0 : Int), ((0 : Int), (([] : List Int), (([] : List Bool), (((0 : Int), ((0 : Int), (0 : Int))), ([] : List (Int × (List Int))))))))), ((1 : Int), ())))
    else
      (bif (decide (x.2.1 < (1 : Int))) then
        (some (((0 : Int), ((0 : Int), ((0 : Int), (([] : List Int), (([] : List Bool), (((0 : Int), ((0 : Int), (0 : Int))), ([] : List (Int × (List Int))))))))), ((1 : Int), ())))
      else
        (bif (decide (x.2.1 > (256 : Int))) then
          (some (((0 : Int), ((0 : Int), ((0 : Int), (([] : List Int), (([] : List Bool), (((0 : Int), ((0 : Int), (0 : Int))), ([] : List (Int × (List Int))))))))), ((1 : Int), ())))
        else
          (bif (decide (x.2.2.1 < (1 : Int))) then
            (some (((0 : Int), ((0 : Int), ((0 : Int), (([] : List Int), (([] : List Bool), (((0 : Int), ((0 : Int), (0 : Int))), ([] : List (Int × (List Int))))))))), ((1 : Int), ())))
          else
            (bif (decide (x.2.2.1 > (8 : Int))) then
              (some (((0 : Int), ((0 : Int), ((0 : Int), (([] : List Int), (([] : List Bool), (((0 : Int), ((0 : Int), (0 : Int))), ([] : List (Int × (List Int))))))))), ((1 : Int), ())))
            else
              (Option.bind (loopM (X := (Int × (Int × (Int × (Int × ((List Int) × ((List Bool) × (Int × (Int × (Int × (List (Int × (List Int))))))))))))) (E := (Int × (Int × (Int × ((List Int) × ((List Bool) × (Int × (Int × (Int × (List (Int × (List Int)))))))))))) (fun (x1 : (Int × (Int × (Int × (Int × ((List Int) × ((List Bool) × (Int × (Int × (Int × (List (Int × (List Int))))))))))))) =>
                  bif (decide (x1.1 < x.2.1)) then
                    (gd ((((List.length x1.2.2.2.2.1) + (List.length ((-1 : Int) :: ([] : List Int)))) * 8) ≤ 140737488355328) (gd (((List.length x1.2.2.2.2.1) + (List.length ((-1 : Int) :: ([] : List Int)))) ≤ 140737488355328) (some (Sum.inl ((Go.IntKind.wrap .i64 (x1.1 + (1 : Int))), (x1.2.1, (x1.2.2.1, (x1.2.2.2.1, ((x1.2.2.2.2.1 ++ ((-1 : Int) :: ([] : List Int))), (x1.2.2.2.2.2.1, (x1.2.2.2.2.2.2.1, (x1.2.2.2.2.2.2.2.1, (x1.2.2.2.2.2.2.2.2.1, x1.2.2.2.2.2.2.2.2.2)))))))))))))
                  else
                    (some (Sum.inr (x1.2.1, (x1.2.2.1, (x1.2.2.2.1, (x1.2.2.2.2.1, (x1.2.2.2.2.2.1, (x1.2.2.2.2.2.2.1, (x1.2.2.2.2.2.2.2.1, (x1.2.2.2.2.2.2.2.2.1, x1.2.2.2.2.2.2.2.2.2))))))))))) ((0 : Int), (x.1, (x.2.1, (x.2.2.1, (([] : List Int), (([] : List Bool), ((0 : Int), ((0 : Int), ((0 : Int), ([] : List (Int × (List Int))))))))))))) fun (y1 : (Int × (Int × (Int × ((List Int) × ((List Bool) × (Int × (Int × (Int × (List (Int × (List Int)))))))))))) =>
              gd ((0 : Int) ≤ (Go.IntKind.wrap .i64 (x.1 * x.2.1))) (gd ((Go.IntKind.wrap .i64 (x.1 * x.2.1)) ≤ (Go.IntKind.wrap .i64 (x.1 * x.2.1))) (gd (((Go.IntKind.wrap .i64 (x.1 * x.2.1)) * (1 : Int)) ≤ (140737488355328 : Int)) (some ((y1.1, (y1.2.1, (y1.2.2.1, (y1.2.2.2.1, ((List.replicate (Int.toNat (Go.IntKind.wrap .i64 (x.1 * x.2.1))) false), (((-1 : Int), (y1.2.2.2.2.2.2.1, y1.2.2.2.2.2.2.2.1)), y1.2.2.2.2.2.2.2.2)))))), ((0 : Int), ())))))))))))

noncomputable def r43 : PDen [(false, (.int .i64)), (false, (.int .i64)), (false, (.int .i64))] → Option (PDen [(true, (.pair (.int .i64) (.pair (.int .i64) (.pair (.int .i64) (.pair (.sl (.int .i64)) (.pair (.sl .bool) (.pair (.pair (.int .i64) (.pair (.int .i64) (.int .i64))) (.sl (.pair (.int .i64) (.sl (.int .i64))))))))))), (false, (.int .i64))]) := fun x => afunM Try.prog (envOf [] [] [] []) ⟨[(0, ⟨[.slot 9 (.d false (.int .i64) true), .cell 1 0 (.d false (.int .i64) true), .cell 1 1 (.d false (.int .i64) true), .cell 1 2 (.d false (.int .i64) true), .cell 1 3 (.v 3 (.int .i64) true), .cell 1 4 (.d false (.sl .bool) false), .cell 1 5 (.d false (.int .i64) true), .cell 1 6 (.d false (.int .i64) true), .cell 1 7 (.d false (.int .i64) true), .cell 1 8 (.d false (.sl (.pair (.int .i64) (.sl (.int .i64)))) false)], [], [(some 0, [.cell 1 0 (.d false (.int .i64) true), .cell 1 1 (.d false (.int .i64) true), .cell 1 2 (.d false (.int .i64) true), .cell 1 3 (.v 3 (.int .i64) true), .cell 1 4 (.d false (.sl .bool) false), .cell 1 5 (.d false (.int .i64) true), .cell 1 6 (.d false (.int .i64) true), .cell 1 7 (.d false (.int .i64) true), .cell 1 8 (.d false (.sl (.pair (.int .i64) (.sl (.int .i64)))) false)])], none⟩)], []⟩ Try.f43 [(false, (.int .i64)), (false, (.int .i64)), (false, (.int .i64))] [(true, (.pair (.int .i64) (.pair (.int .i64) (.pair (.int .i64) (.pair (.sl (.int .i64)) (.pair (.sl .bool) (.pair (.pair (.int .i64) (.pair (.int .i64) (.int .i64))) (.sl (.pair (.int .i64) (.sl (.int .i64))))))))))), (false, (.int .i64))] [(.p .d (.p .d (.p .d (.p (.s 3) (.p (.s 4) .d))))), .d] true x
theorem r43_eq : r43 = m43 := by kernel_rfl

theorem c43 : OM.Sound Try.prog 43 ⟨[(false, (.int .i64)), (false, (.int .i64)), (false, (.int .i64))], [(true, (.pair (.int .i64) (.pair (.int .i64) (.pair (.int .i64) (.pair (.sl (.int .i64)) (.pair (.sl .bool) (.pair (.pair (.int .i64) (.pair (.int .i64) (.int .i64))) (.sl (.pair (.int .i64) (.sl (.int .i64))))))))))), (false, (.int .i64))], [(.p .d (.p .d (.p .d (.p (.s 3) (.p (.s 4) .d))))), .d], true, m43⟩ := afunM_sound' (envOf_sound (CSs.nil) (HDs.nil) (IDs.nil)) rfl Try.follows (f := 43) (fn := Try.f43) Try.func43 (by kernel_rfl) (by kernel_rfl) r43_eq
end Go.Proofs.Ytefekolpfklhdaa
end

section
/- What function 34 (slipway/slipwayref07.Table) computes, by the kernel. -/
open Go Go.Proofs.AM
namespace Go.Proofs.Ytefekolpfklhdaa

noncomputable def m34 (x : Int × Int × Int × (List (Int × Int)) × Unit) : Option ((Int × (Int × (Int × ((List Int) × ((List Bool) × ((Int × (Int × Int)) × (List (Int × (List Int))))))))) × ((List Int) × (Int × Unit))) :=
  Option.bind (m43 (x.1, (x.2.1, (x.2.2.1, ())))) fun (y1 : ((Int × (Int × (Int × ((List Int) × ((List Bool) × ((Int × (Int × Int)) × (List (Int × (List Int))))))))) × (Int × Unit))) =>
  bif (!(decide (y1.2.1 = (0 : Int)))) then
    (some (((0 : Int), ((0 : Int), ((0 : Int), (([] : List Int), (([] : List Bool), (((0 : Int), ((0 : Int), (0 : Int))), ([] : List (Int × (List Int))))))))), (([] : List Int), (y1.2.1, ()))))
  else
    (bif (!(decide ((((List.length x.2.2.2.1) : Nat) : Int) = (Go.IntKind.wrap .i64 (x.2.1 * x.1))))) then
      (some (((0 : Int), ((0 : Int), ((0 : Int), (([] : List Int), (([] : List Bool), (((0 : Int), ((0 : Int), (0 : Int))), ([] : List (Int × (List Int))))))))), (([] : List Int), ((1 : Int), ()))))
    else
      (Option.bind (loopM (X := ((List Int) × (Int × ((List Int) × (List Bool))))) (E := ((List Int) × ((List Int) × (List Bool)))) (fun (x2 : ((List Int) × (Int × ((List Int) × (List Bool))))) =>
          bif (decide (x2.2.1 < x.2.1)) then
            (Option.bind (m33 (x.1, (x.2.2.2.1, (x2.2.1, ())))) fun (y3 : (Int × (Bool × Unit))) =>
            bif (!y3.2.1) then
              (Option.bind (m64 (x.1, (x.2.2.2.1, (x2.2.1, ())))) fun (y4 : (Bool × Unit)) =>
              bif y4.1 then
                (gd ((((List.length x2.1) + (List.length (x2.2.1 :: ([] : List Int)))) * 8) ≤ 140737488355328) (gd (((List.length x2.1) + (List.length (x2.2.1 :: ([] : List Int)))) ≤ 140737488355328) (some (Sum.inl ((x2.1 ++ (x2.2.1 :: ([] : List Int))), ((Go.IntKind.wrap .i64 (x2.2.1 + (1 : Int))), (x2.2.2.1, x2.2.2.2)))))))
              else
                (some (Sum.inl (x2.1, ((Go.IntKind.wrap .i64 (x2.2.1 + (1 : Int))), (x2.2.2.1, x2.2.2.2))))))
            else
              (gd ((0 : Int) ≤ x2.2.1) (gd (x2.2.1 < (((List.length x2.2.2.1) : Nat) : Int)) (gd ((Int.toNat x2.2.1) < (List.length x2.2.2.1)) (Option.bind (loopM (X := (Int × (List Bool))) (E := (List Bool)) (fun (x4 : (Int × (List Bool))) =>
                        bif (decide (x4.1 < x.1)) then
                          (gd ((0 : Int) ≤ (Go.IntKind.wrap .i64 ((Go.IntKind.wrap .i64 (x2.2.1 * x.1)) + x4.1))) (gd ((Go.IntKind.wrap .i64 ((Go.IntKind.wrap .i64 (x2.2.1 * x.1)) + x4.1)) < (((List.length x.2.2.2.1) : Nat) : Int)) (Option.bind (m63 ((List.getD x.2.2.2.1 (Int.toNat (Go.IntKind.wrap .i64 ((Go.IntKind.wrap .i64 (x2.2.1 * x.1)) + x4.1))) ((0 : Int), (0 : Int))), ())) fun (y5 : (Bool × Unit)) =>
                              gd ((0 : Int) ≤ (Go.IntKind.wrap .i64 ((Go.IntKind.wrap .i64 (x2.2.1 * x.1)) + x4.1))) (gd ((Go.IntKind.wrap .i64 ((Go.IntKind.wrap .i64 (x2.2.1 * x.1)) + x4.1)) < (((List.length x4.2) : Nat) : Int)) (gd ((Int.toNat (Go.IntKind.wrap .i64 ((Go.IntKind.wrap .i64 (x2.2.1 * x.1)) + x4.1))) < (List.length x4.2)) (some (Sum.inl ((Go.IntKind.wrap .i64 (x4.1 + (1 : Int))), (List.set x4.2 (Int.toNat (Go.IntKind.wrap .i64 ((Go.IntKind.wrap .i64 (x2.2.1 * x.1)) + x4.1))) y5.1)))))))))
                        else
                          (some (Sum.inr x4.2))) ((0 : Int), x2.2.2.2)) fun (y4 : (List Bool)) =>
                    some (Sum.inl (x2.1, ((Go.IntKind.wrap .i64 (x2.2.1 + (1 : Int))), ((List.set x2.2.2.1 (Int.toNat x2.2.1) y3.1), y4)))))))))
          else
            (some (Sum.inr (x2.1, (x2.2.2.1, x2.2.2.2))))) (([] : List Int), ((0 : Int), (y1.1.2.2.2.1, y1.1.2.2.2.2.1)))) fun (y2 : ((List Int) × ((List Int) × (List Bool)))) =>
      some ((y1.1.1, (y1.1.2.1, (y1.1.2.2.1, (y2.2.1, (y2.2.2, y1.1.2.2.2.2.2))))), (y2.1, ((0 : Int), ())))))

noncomputable def r34 : PDen [(false, (.int .i64)), (false, (.int .i64)), (false, (.int .i64)), (false, (.sl (.pair (.int .i64) (.int .i64))))] → Option (PDen [(true, (.pair (.int .i64) (.pair (.int .i64) (.pair (.int .i64) (.pair (.sl (.int .i64)) (.pair (.sl .bool) (.pair (.pair (.int .i64) (.pair (.int .i64) (.int .i64))) (.sl (.pair (.int .i64) (.sl (.int .i64))))))))))), (false, (.sl (.int .i64))), (false, (.int .i64))]) := fun x => afunM Try.prog (envOf [(33, ⟨[(false, (.int .i64)), (false, (.sl (.pair (.int .i64) (.int .i64)))), (false, (.int .i64))], [(false, (.int .i64)), (false, .bool)], false, m33⟩), (63, ⟨[(true, (.pair (.int .i64) (.int .i64)))], [(false, .bool)], false, m63⟩), (64, ⟨[(false, (.int .i64)), (false, (.sl (.pair (.int .i64) (.int .i64)))), (false, (.int .i64))], [(false, .bool)], false, m64⟩)] [(43, OM.hd ⟨[(false, (.int .i64)), (false, (.int .i64)), (false, (.int .i64))], [(true, (.pair (.int .i64) (.pair (.int .i64) (.pair (.int .i64) (.pair (.sl (.int .i64)) (.pair (.sl .bool) (.pair (.pair (.int .i64) (.pair (.int .i64) (.int .i64))) (.sl (.pair (.int .i64) (.sl (.int .i64))))))))))), (false, (.int .i64))], [(.p .d (.p .d (.p .d (.p (.s 3) (.p (.s 4) .d))))), .d], true, m43⟩)] [] []) ⟨[(0, ⟨[.slot 13 (.v 3 (.int .i64) true), .slot 14 (.d false (.int .i64) true), .vec 1 3 (.int .i64) true, .vec 2 4 .bool true], [], [(some 0, [.slot 13 (.v 3 (.int .i64) true), .vec 1 3 (.int .i64) true, .vec 2 4 .bool true])], none⟩), (2, ⟨[.slot 17 (.d false (.int .i64) true), .vec 2 4 .bool true], [], [(some 2, [.vec 2 4 .bool true])], none⟩)], []⟩ Try.f34 [(false, (.int .i64)), (false, (.int .i64)), (false, (.int .i64)), (false, (.sl (.pair (.int .i64) (.int .i64))))] [(true, (.pair (.int .i64) (.pair (.int .i64) (.pair (.int .i64) (.pair (.sl (.int .i64)) (.pair (.sl .bool) (.pair (.pair (.int .i64) (.pair (.int .i64) (.int .i64))) (.sl (.pair (.int .i64) (.sl (.int .i64))))))))))), (false, (.sl (.int .i64))), (false, (.int .i64))] [(.p .d (.p .d (.p .d (.p (.s 3) (.p (.s 4) .d))))), (.s 3), .d] false x
theorem r34_eq : r34 = m34 := by kernel_rfl

theorem c34 : OM.Sound Try.prog 34 ⟨[(false, (.int .i64)), (false, (.int .i64)), (false, (.int .i64)), (false, (.sl (.pair (.int .i64) (.int .i64))))], [(true, (.pair (.int .i64) (.pair (.int .i64) (.pair (.int .i64) (.pair (.sl (.int .i64)) (.pair (.sl .bool) (.pair (.pair (.int .i64) (.pair (.int .i64) (.int .i64))) (.sl (.pair (.int .i64) (.sl (.int .i64))))))))))), (false, (.sl (.int .i64))), (false, (.int .i64))], [(.p .d (.p .d (.p .d (.p (.s 3) (.p (.s 4) .d))))), (.s 3), .d], false, m34⟩ := afunM_sound' (envOf_sound (CSs.cons c33 (CSs.cons c63 (CSs.cons c64 (CSs.nil)))) (HDs.cons (OM.Sound.hd c43) (HDs.nil)) (IDs.nil)) rfl Try.follows (f := 34) (fn := Try.f34) Try.func34 (by kernel_rfl) (by kernel_rfl) r34_eq
end Go.Proofs.Ytefekolpfklhdaa
end

section
/- What function 10 (slipway/slipwaylaw07.ScanTables) computes, by the kernel. -/
open Go Go.Proofs.AM
namespace Go.Proofs.Ytefekolpfklhdaa

noncomputable def m10 (x : (Int × (Int × (Int × ((List ((Int × Int) × (Int × (Int × (Int × Int))))) × (List (Int × Int)))))) × Int × Unit) : Option (Bool × Unit) :=
  Option.bind (m11 ()) fun (y1 : (Bool × Unit)) =>
  bif (!y1.1) then
    (some (false, ()))
  else
    (Option.bind (m12 (x.1, ())) fun (y2 : (Bool × Unit)) =>
    bif (!y2.1) then
      (some (true, ()))
    else
      (Option.bind (m32 (x.1.1, (x.1.2.2.2.2, (x.2.1, ())))) fun (y3 : (Int × (Bool × Unit))) =>
      Option.bind (m33 (x.1.1, (x.1.2.2.2.2, (x.2.1, ())))) fun (y4 : (Int × (Bool × Unit))) =>
      Option.bind (m25 (x.1.1, (x.1.2.1, (x.1.2.2.1, (x.1.2.2.2.2, ()))))) fun (y5 : ((Int × (Int × (Int × ((List Int) × ((List Bool) × ((Int × (Int × Int)) × (List (Int × (List Int))))))))) × ((List Int) × (Int × Unit)))) =>
      Option.bind (m34 (x.1.1, (x.1.2.1, (x.1.2.2.1, (x.1.2.2.2.2, ()))))) fun (y6 : ((Int × (Int × (Int × ((List Int) × ((List Bool) × ((Int × (Int × Int)) × (List (Int × (List Int))))))))) × ((List Int) × (Int × Unit)))) =>
      bif (decide (y3.1 = y4.1)) then
        (bif (bif y3.2.1 then y4.2.1 else (!y4.2.1)) then
          (Option.bind (m26 (y5.1, (y6.1, ()))) fun (y7 : (Bool × Unit)) =>
          bif y7.1 then
            (Option.bind (m35 (y5.2.1, (y6.2.1, ()))) fun (y8 : (Bool × Unit)) =>
            bif y8.1 then
              (bif (decide (y5.2.2.1 = y6.2.2.1)) then
                (Option.bind (m36 (x.1.2.2.2.2, ())) fun (y9 : ((List Int) × Unit)) =>
                Option.bind (m37 (x.1.2.2.2.2, ())) fun (y10 : ((List Int) × Unit)) =>
                Option.bind (m35 (y9.1, (y10.1, ()))) fun (y11 : (Bool × Unit)) =>
                some (y11.1, ()))
              else
                (some (false, ())))
            else
              (some (false, ())))
          else
            (some (false, ())))
        else
          (some (false, ())))
      else
        (some (false, ()))))

noncomputable def r10 : PDen [(true, (.pair (.int .i64) (.pair (.int .i64) (.pair (.int .i64) (.pair (.sl (.pair (.pair (.int .i64) (.int .i64)) (.pair (.int .i64) (.pair (.int .i64) (.pair (.int .i64) (.int .i64)))))) (.sl (.pair (.int .i64) (.int .i64)))))))), (false, (.int .i64))] → Option (PDen [(false, .bool)]) := fun x => afun Try.prog (envOf [(11, ⟨[], [(false, .bool)], false, m11⟩), (12, ⟨[(true, (.pair (.int .i64) (.pair (.int .i64) (.pair (.int .i64) (.pair (.sl (.pair (.pair (.int .i64) (.int .i64)) (.pair (.int .i64) (.pair (.int .i64) (.pair (.int .i64) (.int .i64)))))) (.sl (.pair (.int .i64) (.int .i64))))))))], [(false, .bool)], false, m12⟩), (26, ⟨[(true, (.pair (.int .i64) (.pair (.int .i64) (.pair (.int .i64) (.pair (.sl (.int .i64)) (.pair (.sl .bool) (.pair (.pair (.int .i64) (.pair (.int .i64) (.int .i64))) (.sl (.pair (.int .i64) (.sl (.int .i64))))))))))), (true, (.pair (.int .i64) (.pair (.int .i64) (.pair (.int .i64) (.pair (.sl (.int .i64)) (.pair (.sl .bool) (.pair (.pair (.int .i64) (.pair (.int .i64) (.int .i64))) (.sl (.pair (.int .i64) (.sl (.int .i64)))))))))))], [(false, .bool)], false, m26⟩), (32, ⟨[(false, (.int .i64)), (false, (.sl (.pair (.int .i64) (.int .i64)))), (false, (.int .i64))], [(false, (.int .i64)), (false, .bool)], false, m32⟩), (33, ⟨[(false, (.int .i64)), (false, (.sl (.pair (.int .i64) (.int .i64)))), (false, (.int .i64))], [(false, (.int .i64)), (false, .bool)], false, m33⟩), (35, ⟨[(false, (.sl (.int .i64))), (false, (.sl (.int .i64)))], [(false, .bool)], false, m35⟩), (36, ⟨[(false, (.sl (.pair (.int .i64) (.int .i64))))], [(false, (.sl (.int .i64)))], false, m36⟩), (37, ⟨[(false, (.sl (.pair (.int .i64) (.int .i64))))], [(false, (.sl (.int .i64)))], false, m37⟩)] [(25, OM.hd ⟨[(false, (.int .i64)), (false, (.int .i64)), (false, (.int .i64)), (false, (.sl (.pair (.int .i64) (.int .i64))))], [(true, (.pair (.int .i64) (.pair (.int .i64) (.pair (.int .i64) (.pair (.sl (.int .i64)) (.pair (.sl .bool) (.pair (.pair (.int .i64) (.pair (.int .i64) (.int .i64))) (.sl (.pair (.int .i64) (.sl (.int .i64))))))))))), (false, (.sl (.int .i64))), (false, (.int .i64))], [(.p .d (.p .d (.p .d (.p (.s 3) (.p (.s 4) .d))))), (.s 3), .d], false, m25⟩), (34, OM.hd ⟨[(false, (.int .i64)), (false, (.int .i64)), (false, (.int .i64)), (false, (.sl (.pair (.int .i64) (.int .i64))))], [(true, (.pair (.int .i64) (.pair (.int .i64) (.pair (.int .i64) (.pair (.sl (.int .i64)) (.pair (.sl .bool) (.pair (.pair (.int .i64) (.pair (.int .i64) (.int .i64))) (.sl (.pair (.int .i64) (.sl (.int .i64))))))))))), (false, (.sl (.int .i64))), (false, (.int .i64))], [(.p .d (.p .d (.p .d (.p (.s 3) (.p (.s 4) .d))))), (.s 3), .d], false, m34⟩)] [] []) ⟨[], []⟩ Try.f10 [(true, (.pair (.int .i64) (.pair (.int .i64) (.pair (.int .i64) (.pair (.sl (.pair (.pair (.int .i64) (.int .i64)) (.pair (.int .i64) (.pair (.int .i64) (.pair (.int .i64) (.int .i64)))))) (.sl (.pair (.int .i64) (.int .i64)))))))), (false, (.int .i64))] [(false, .bool)] false x
theorem r10_eq : r10 = m10 := by kernel_rfl

theorem c10 : CS.Sound Try.prog 10 ⟨[(true, (.pair (.int .i64) (.pair (.int .i64) (.pair (.int .i64) (.pair (.sl (.pair (.pair (.int .i64) (.int .i64)) (.pair (.int .i64) (.pair (.int .i64) (.pair (.int .i64) (.int .i64)))))) (.sl (.pair (.int .i64) (.int .i64)))))))), (false, (.int .i64))], [(false, .bool)], false, m10⟩ := afun_sound' (envOf_sound (CSs.cons c11 (CSs.cons c12 (CSs.cons c26 (CSs.cons c32 (CSs.cons c33 (CSs.cons c35 (CSs.cons c36 (CSs.cons c37 (CSs.nil))))))))) (HDs.cons (OM.Sound.hd c25) (HDs.cons (OM.Sound.hd c34) (HDs.nil))) (IDs.nil)) rfl Try.follows (f := 10) (fn := Try.f10) Try.func10 (by kernel_rfl) (by kernel_rfl) r10_eq
end Go.Proofs.Ytefekolpfklhdaa
end

section
/- What function 13 (slipway/slipwayref07.SamePlaces) computes, by the kernel. -/
open Go Go.Proofs.AM
namespace Go.Proofs.Ytefekolpfklhdaa

noncomputable def m13 (x : (List (Int × Int)) × (List (Int × Int)) × Unit) : Option (Bool × Unit) :=
  bif (!(decide ((((List.length x.1) : Nat) : Int) = (((List.length x.2.1) : Nat) : Int)))) then
    (some (false, ()))
  else
    (Option.bind (loopM (X := Int) (E := (Unit ⊕ Bool)) (fun (x1 : Int) =>
        bif (decide (x1 < (((List.length x.1) : Nat) : Int))) then
          (gd ((0 : Int) ≤ x1) (gd (x1 < (((List.length x.1) : Nat) : Int)) (gd ((0 : Int) ≤ x1) (gd (x1 < (((List.length x.2.1) : Nat) : Int)) (bif (!((decide ((List.getD x.1 (Int.toNat x1) ((0 : Int), (0 : Int))).1 = (List.getD x.2.1 (Int.toNat x1) ((0 : Int), (0 : Int))).1)) && (decide ((List.getD x.1 (Int.toNat x1) ((0 : Int), (0 : Int))).2 = (List.getD x.2.1 (Int.toNat x1) ((0 : Int), (0 : Int))).2)))) then
                    (some (Sum.inr (Sum.inr false)))
                  else
                    (some (Sum.inl (Go.IntKind.wrap .i64 (x1 + (1 : Int))))))))))
        else
          (some (Sum.inr (Sum.inl ())))) (0 : Int)) fun (y1 : (Unit ⊕ Bool)) =>
    Sum.elim (fun y2 =>
      some (true, ())) (fun y2 =>
      some (y2, ())) y1)

noncomputable def r13 : PDen [(false, (.sl (.pair (.int .i64) (.int .i64)))), (false, (.sl (.pair (.int .i64) (.int .i64))))] → Option (PDen [(false, .bool)]) := fun x => afun Try.prog (envOf [] [] [] []) ⟨[(0, ⟨[.slot 5 (.d false (.int .i64) true)], [], [(some 0, []), (none, [.slot 4 (.d false .bool true)])], none⟩)], []⟩ Try.f13 [(false, (.sl (.pair (.int .i64) (.int .i64)))), (false, (.sl (.pair (.int .i64) (.int .i64))))] [(false, .bool)] false x
theorem r13_eq : r13 = m13 := by kernel_rfl

theorem c13 : CS.Sound Try.prog 13 ⟨[(false, (.sl (.pair (.int .i64) (.int .i64)))), (false, (.sl (.pair (.int .i64) (.int .i64))))], [(false, .bool)], false, m13⟩ := afun_sound' (envOf_sound (CSs.nil) (HDs.nil) (IDs.nil)) rfl Try.follows (f := 13) (fn := Try.f13) Try.func13 (by kernel_rfl) (by kernel_rfl) r13_eq
end Go.Proofs.Ytefekolpfklhdaa
end

section
/- What function 18 (slipway/slipwayref03.Check) computes, by the kernel. -/
open Go Go.Proofs.AM
namespace Go.Proofs.Ytefekolpfklhdaa

noncomputable def m18 (x : (Int × (Int × (Int × Int))) × Unit) : Option (Int × Unit) :=
  bif (decide (x.1.1 < (1 : Int))) then
    (some ((30 : Int), ()))
  else
    (bif (decide (x.1.1 > (3 : Int))) then
      (some ((30 : Int), ()))
    else
      (bif (decide (x.1.2.1 < (0 : Int))) then
        (some ((30 : Int), ()))
      else
        (bif (decide (x.1.2.1 ≥ (1048576 : Int))) then
          (some ((30 : Int), ()))
        else
          (bif (decide (x.1.2.2.1 < (1 : Int))) then
            (some ((30 : Int), ()))
          else
            (bif (decide (x.1.2.2.2 < x.1.2.2.1)) then
              (some ((30 : Int), ()))
            else
              (bif (decide (x.1.2.2.2 > (1152921504606846976 : Int))) then
                (some ((30 : Int), ()))
              else
                (bif (!(decide (x.1.1 = (1 : Int)))) then
                  (bif (!(decide (x.1.2.2.2 = x.1.2.2.1))) then
                    (some ((30 : Int), ()))
                  else
                    (some ((0 : Int), ())))
                else
                  (some ((0 : Int), ())))))))))

noncomputable def r18 : PDen [(true, (.pair (.int .i64) (.pair (.int .i64) (.pair (.int .i64) (.int .i64)))))] → Option (PDen [(false, (.int .i64))]) := fun x => afun Try.prog (envOf [] [] [] []) ⟨[], []⟩ Try.f18 [(true, (.pair (.int .i64) (.pair (.int .i64) (.pair (.int .i64) (.int .i64)))))] [(false, (.int .i64))] false x
theorem r18_eq : r18 = m18 := by kernel_rfl

theorem c18 : CS.Sound Try.prog 18 ⟨[(true, (.pair (.int .i64) (.pair (.int .i64) (.pair (.int .i64) (.int .i64)))))], [(false, (.int .i64))], false, m18⟩ := afun_sound' (envOf_sound (CSs.nil) (HDs.nil) (IDs.nil)) rfl Try.follows (f := 18) (fn := Try.f18) Try.func18 (by kernel_rfl) (by kernel_rfl) r18_eq
end Go.Proofs.Ytefekolpfklhdaa
end

section
/- What function 44 (slipway/slipwayref07.counts) computes, by the kernel. -/
open Go Go.Proofs.AM
namespace Go.Proofs.Ytefekolpfklhdaa

noncomputable def m44 (x : Int × ((Int × Int) × (Int × (Int × (Int × Int)))) × Unit) : Option (Bool × Unit) :=
  Option.bind (m18 (x.2.1.2, ())) fun (y1 : (Int × Unit)) =>
  bif (decide (y1.1 = (0 : Int))) then
    (bif (!(decide (x.2.1.2.1 = (3 : Int)))) then
      (bif (decide (x.2.1.1.1 ≥ (0 : Int))) then
        (bif (decide (x.2.1.1.1 < (256 : Int))) then
          (bif (decide (x.2.1.1.2 ≥ (0 : Int))) then
            (some ((decide (x.2.1.1.2 < x.1)), ()))
          else
            (some (false, ())))
        else
          (some (false, ())))
      else
        (some (false, ())))
    else
      (some (false, ())))
  else
    (some (false, ()))

noncomputable def r44 : PDen [(false, (.int .i64)), (true, (.pair (.pair (.int .i64) (.int .i64)) (.pair (.int .i64) (.pair (.int .i64) (.pair (.int .i64) (.int .i64))))))] → Option (PDen [(false, .bool)]) := fun x => afun Try.prog (envOf [(18, ⟨[(true, (.pair (.int .i64) (.pair (.int .i64) (.pair (.int .i64) (.int .i64)))))], [(false, (.int .i64))], false, m18⟩)] [] [] []) ⟨[], []⟩ Try.f44 [(false, (.int .i64)), (true, (.pair (.pair (.int .i64) (.int .i64)) (.pair (.int .i64) (.pair (.int .i64) (.pair (.int .i64) (.int .i64))))))] [(false, .bool)] false x
theorem r44_eq : r44 = m44 := by kernel_rfl

theorem c44 : CS.Sound Try.prog 44 ⟨[(false, (.int .i64)), (true, (.pair (.pair (.int .i64) (.int .i64)) (.pair (.int .i64) (.pair (.int .i64) (.pair (.int .i64) (.int .i64))))))], [(false, .bool)], false, m44⟩ := afun_sound' (envOf_sound (CSs.cons c18 (CSs.nil)) (HDs.nil) (IDs.nil)) rfl Try.follows (f := 44) (fn := Try.f44) Try.func44 (by kernel_rfl) (by kernel_rfl) r44_eq
end Go.Proofs.Ytefekolpfklhdaa
end

section
/- What function 71 (slipway/slipwayref03.Newer) computes, by the kernel. -/
open Go Go.Proofs.AM
namespace Go.Proofs.Ytefekolpfklhdaa

noncomputable def m71 (x : (Int × (Int × (Int × Int))) × (Int × (Int × (Int × Int))) × Unit) : Option (Bool × Unit) :=
  bif (decide (x.1.2.2.1 > x.2.1.2.2.1)) then
    (some (true, ()))
  else
    (bif (decide (x.1.2.2.1 = x.2.1.2.2.1)) then
      (some ((decide (x.1.2.2.2 < x.2.1.2.2.2)), ()))
    else
      (some (false, ())))

noncomputable def r71 : PDen [(true, (.pair (.int .i64) (.pair (.int .i64) (.pair (.int .i64) (.int .i64))))), (true, (.pair (.int .i64) (.pair (.int .i64) (.pair (.int .i64) (.int .i64)))))] → Option (PDen [(false, .bool)]) := fun x => afun Try.prog (envOf [] [] [] []) ⟨[], []⟩ Try.f71 [(true, (.pair (.int .i64) (.pair (.int .i64) (.pair (.int .i64) (.int .i64))))), (true, (.pair (.int .i64) (.pair (.int .i64) (.pair (.int .i64) (.int .i64)))))] [(false, .bool)] false x
theorem r71_eq : r71 = m71 := by kernel_rfl

theorem c71 : CS.Sound Try.prog 71 ⟨[(true, (.pair (.int .i64) (.pair (.int .i64) (.pair (.int .i64) (.int .i64))))), (true, (.pair (.int .i64) (.pair (.int .i64) (.pair (.int .i64) (.int .i64)))))], [(false, .bool)], false, m71⟩ := afun_sound' (envOf_sound (CSs.nil) (HDs.nil) (IDs.nil)) rfl Try.follows (f := 71) (fn := Try.f71) Try.func71 (by kernel_rfl) (by kernel_rfl) r71_eq
end Go.Proofs.Ytefekolpfklhdaa
end

section
/- What function 45 (slipway/slipwayref07.less) computes, by the kernel. -/
open Go Go.Proofs.AM
namespace Go.Proofs.Ytefekolpfklhdaa

noncomputable def m45 (x : ((Int × Int) × (Int × (Int × (Int × Int)))) × ((Int × Int) × (Int × (Int × (Int × Int)))) × Unit) : Option (Bool × Unit) :=
  Option.bind (m71 (x.1.2, (x.2.1.2, ()))) fun (y1 : (Bool × Unit)) =>
  bif y1.1 then
    (Option.bind (m71 (x.1.2, (x.2.1.2, ()))) fun (y2 : (Bool × Unit)) =>
    some (y2.1, ()))
  else
    (Option.bind (m71 (x.2.1.2, (x.1.2, ()))) fun (y2 : (Bool × Unit)) =>
    bif y2.1 then
      (Option.bind (m71 (x.1.2, (x.2.1.2, ()))) fun (y3 : (Bool × Unit)) =>
      some (y3.1, ()))
    else
      (bif (decide (x.1.1.1 < x.2.1.1.1)) then
        (some (true, ()))
      else
        (bif (decide (x.1.1.1 = x.2.1.1.1)) then
          (some ((decide (x.1.1.2 < x.2.1.1.2)), ()))
        else
          (some (false, ())))))

noncomputable def r45 : PDen [(true, (.pair (.pair (.int .i64) (.int .i64)) (.pair (.int .i64) (.pair (.int .i64) (.pair (.int .i64) (.int .i64)))))), (true, (.pair (.pair (.int .i64) (.int .i64)) (.pair (.int .i64) (.pair (.int .i64) (.pair (.int .i64) (.int .i64))))))] → Option (PDen [(false, .bool)]) := fun x => afun Try.prog (envOf [(71, ⟨[(true, (.pair (.int .i64) (.pair (.int .i64) (.pair (.int .i64) (.int .i64))))), (true, (.pair (.int .i64) (.pair (.int .i64) (.pair (.int .i64) (.int .i64)))))], [(false, .bool)], false, m71⟩)] [] [] []) ⟨[], []⟩ Try.f45 [(true, (.pair (.pair (.int .i64) (.int .i64)) (.pair (.int .i64) (.pair (.int .i64) (.pair (.int .i64) (.int .i64)))))), (true, (.pair (.pair (.int .i64) (.int .i64)) (.pair (.int .i64) (.pair (.int .i64) (.pair (.int .i64) (.int .i64))))))] [(false, .bool)] false x
theorem r45_eq : r45 = m45 := by kernel_rfl

theorem c45 : CS.Sound Try.prog 45 ⟨[(true, (.pair (.pair (.int .i64) (.int .i64)) (.pair (.int .i64) (.pair (.int .i64) (.pair (.int .i64) (.int .i64)))))), (true, (.pair (.pair (.int .i64) (.int .i64)) (.pair (.int .i64) (.pair (.int .i64) (.pair (.int .i64) (.int .i64))))))], [(false, .bool)], false, m45⟩ := afun_sound' (envOf_sound (CSs.cons c71 (CSs.nil)) (HDs.nil) (IDs.nil)) rfl Try.follows (f := 45) (fn := Try.f45) Try.func45 (by kernel_rfl) (by kernel_rfl) r45_eq
end Go.Proofs.Ytefekolpfklhdaa
end

section
/- What function 15 (slipway/slipwayref07.Newest) computes, by the kernel. -/
open Go Go.Proofs.AM
namespace Go.Proofs.Ytefekolpfklhdaa

noncomputable def m15 (x : Int × Int × (List ((Int × Int) × (Int × (Int × (Int × Int))))) × Unit) : Option ((List (Int × Int)) × Unit) :=
  Option.bind (m43 (x.1, (x.2.1, ((1 : Int), ())))) fun (y1 : ((Int × (Int × (Int × ((List Int) × ((List Bool) × ((Int × (Int × Int)) × (List (Int × (List Int))))))))) × (Int × Unit))) =>
  bif (!(decide (y1.2.1 = (0 : Int)))) then
    (some (([] : List (Int × Int)), ()))
  else
    (Option.bind (loopM (X := ((List (Int × Int)) × Int)) (E := (List (Int × Int))) (fun (x2 : ((List (Int × Int)) × Int)) =>
        bif (decide (x2.2 < (Go.IntKind.wrap .i64 (x.1 * x.2.1)))) then
          (Option.bind (loopM (X := (Int × Int)) (E := Int) (fun (x3 : (Int × Int)) =>
              bif (decide (x3.2 < (((List.length x.2.2.1) : Nat) : Int))) then
                (gd ((0 : Int) ≤ x3.2) (gd (x3.2 < (((List.length x.2.2.1) : Nat) : Int)) (Option.bind (m44 (x.1, ((List.getD x.2.2.1 (Int.toNat x3.2) (((0 : Int), (0 : Int)), ((0 : Int), ((0 : Int), ((0 : Int), (0 : Int)))))), ()))) fun (y4 : (Bool × Unit)) =>
                    bif y4.1 then
                      (bif (decide ((List.getD x.2.2.1 (Int.toNat x3.2) (((0 : Int), (0 : Int)), ((0 : Int), ((0 : Int), ((0 : Int), (0 : Int)))))).2.2.1 = x2.2)) then
                        (bif (decide (x3.1 < (0 : Int))) then
                          (some (Sum.inl (x3.2, (Go.IntKind.wrap .i64 (x3.2 + (1 : Int))))))
                        else
                          (gd ((0 : Int) ≤ x3.1) (gd (x3.1 < (((List.length x.2.2.1) : Nat) : Int)) (Option.bind (m45 ((List.getD x.2.2.1 (Int.toNat x3.2) (((0 : Int), (0 : Int)), ((0 : Int), ((0 : Int), ((0 : Int), (0 : Int)))))), ((List.getD x.2.2.1 (Int.toNat x3.1) (((0 : Int), (0 : Int)), ((0 : Int), ((0 : Int), ((0 : Int), (0 : Int)))))), ()))) fun (y5 : (Bool × Unit)) =>
                              bif y5.1 then
                                (some (Sum.inl (x3.2, (Go.IntKind.wrap .i64 (x3.2 + (1 : Int))))))
                              else
                                (some (Sum.inl (x3.1, (Go.IntKind.wrap .i64 (x3.2 + (1 : Int))))))))))
                      else
                        (some (Sum.inl (x3.1, (Go.IntKind.wrap .i64 (x3.2 + (1 : Int)))))))
                    else
                      (some (Sum.inl (x3.1, (Go.IntKind.wrap .i64 (x3.2 + (1 : Int)))))))))
              else
                (some (Sum.inr x3.1))) ((-1 : Int), (0 : Int))) fun (y3 : Int) =>
          bif (decide (y3 < (0 : Int))) then
            (gd ((((List.length x2.1) + (List.length (((-1 : Int), (0 : Int)) :: ([] : List (Int × Int))))) * 16) ≤ 140737488355328) (gd (((List.length x2.1) + (List.length (((-1 : Int), (0 : Int)) :: ([] : List (Int × Int))))) ≤ 140737488355328) (some (Sum.inl ((x2.1 ++ (((-1 : Int), (0 : Int)) :: ([] : List (Int × Int)))), (Go.IntKind.wrap .i64 (x2.2 + (1 : Int))))))))
          else
            (gd ((0 : Int) ≤ y3) (gd (y3 < (((List.length x.2.2.1) : Nat) : Int)) (gd ((((List.length x2.1) + (List.length ((List.getD x.2.2.1 (Int.toNat y3) (((0 : Int), (0 : Int)), ((0 : Int), ((0 : Int), ((0 : Int), (0 : Int)))))).1 :: ([] : List (Int × Int))))) * 16) ≤ 140737488355328) (gd (((List.length x2.1) + (List.length ((List.getD x.2.2.1 (Int.toNat y3) (((0 : Int), (0 : Int)), ((0 : Int), ((0 : Int), ((0 : Int), (0 : Int)))))).1 :: ([] : List (Int × Int))))) ≤ 140737488355328) (some (Sum.inl ((x2.1 ++ ((List.getD x.2.2.1 (Int.toNat y3) (((0 : Int), (0 : Int)), ((0 : Int), ((0 : Int), ((0 : Int), (0 : Int)))))).1 :: ([] : List (Int × Int)))), (Go.IntKind.wrap .i64 (x2.2 + (1 : Int)))))))))))
        else
          (some (Sum.inr x2.1))) (([] : List (Int × Int)), (0 : Int))) fun (y2 : (List (Int × Int))) =>
    some (y2, ()))

noncomputable def r15 : PDen [(false, (.int .i64)), (false, (.int .i64)), (false, (.sl (.pair (.pair (.int .i64) (.int .i64)) (.pair (.int .i64) (.pair (.int .i64) (.pair (.int .i64) (.int .i64)))))))] → Option (PDen [(false, (.sl (.pair (.int .i64) (.int .i64))))]) := fun x => afun Try.prog (envOf [(44, ⟨[(false, (.int .i64)), (true, (.pair (.pair (.int .i64) (.int .i64)) (.pair (.int .i64) (.pair (.int .i64) (.pair (.int .i64) (.int .i64))))))], [(false, .bool)], false, m44⟩), (45, ⟨[(true, (.pair (.pair (.int .i64) (.int .i64)) (.pair (.int .i64) (.pair (.int .i64) (.pair (.int .i64) (.int .i64)))))), (true, (.pair (.pair (.int .i64) (.int .i64)) (.pair (.int .i64) (.pair (.int .i64) (.pair (.int .i64) (.int .i64))))))], [(false, .bool)], false, m45⟩)] [(43, OM.hd ⟨[(false, (.int .i64)), (false, (.int .i64)), (false, (.int .i64))], [(true, (.pair (.int .i64) (.pair (.int .i64) (.pair (.int .i64) (.pair (.sl (.int .i64)) (.pair (.sl .bool) (.pair (.pair (.int .i64) (.pair (.int .i64) (.int .i64))) (.sl (.pair (.int .i64) (.sl (.int .i64))))))))))), (false, (.int .i64))], [(.p .d (.p .d (.p .d (.p (.s 3) (.p (.s 4) .d))))), .d], true, m43⟩)] [] []) ⟨[(0, ⟨[.slot 9 (.v 34 (.pair (.int .i64) (.int .i64)) true), .slot 10 (.d false (.int .i64) true)], [], [(some 0, [.slot 9 (.v 34 (.pair (.int .i64) (.int .i64)) true)])], none⟩), (2, ⟨[.slot 11 (.d false (.int .i64) true), .slot 12 (.d false (.int .i64) true)], [], [(some 2, [.slot 11 (.d false (.int .i64) true)])], none⟩)], []⟩ Try.f15 [(false, (.int .i64)), (false, (.int .i64)), (false, (.sl (.pair (.pair (.int .i64) (.int .i64)) (.pair (.int .i64) (.pair (.int .i64) (.pair (.int .i64) (.int .i64)))))))] [(false, (.sl (.pair (.int .i64) (.int .i64))))] false x
theorem r15_eq : r15 = m15 := by kernel_rfl

theorem c15 : CS.Sound Try.prog 15 ⟨[(false, (.int .i64)), (false, (.int .i64)), (false, (.sl (.pair (.pair (.int .i64) (.int .i64)) (.pair (.int .i64) (.pair (.int .i64) (.pair (.int .i64) (.int .i64)))))))], [(false, (.sl (.pair (.int .i64) (.int .i64))))], false, m15⟩ := afun_sound' (envOf_sound (CSs.cons c44 (CSs.cons c45 (CSs.nil))) (HDs.cons (OM.Sound.hd c43) (HDs.nil)) (IDs.nil)) rfl Try.follows (f := 15) (fn := Try.f15) Try.func15 (by kernel_rfl) (by kernel_rfl) r15_eq
end Go.Proofs.Ytefekolpfklhdaa
end

section
/- What function 17 (slipway/slipwayref07.Greatest) computes, by the kernel. -/
open Go Go.Proofs.AM
namespace Go.Proofs.Ytefekolpfklhdaa

noncomputable def m17 (x : (List ((Int × Int) × (Int × (Int × (Int × Int))))) × Unit) : Option (Int × Unit) :=
  Option.bind (loopM (X := (Int × Int)) (E := Int) (fun (x1 : (Int × Int)) =>
      bif (decide (x1.2 < (((List.length x.1) : Nat) : Int))) then
        (gd ((0 : Int) ≤ x1.2) (gd (x1.2 < (((List.length x.1) : Nat) : Int)) (Option.bind (m18 ((List.getD x.1 (Int.toNat x1.2) (((0 : Int), (0 : Int)), ((0 : Int), ((0 : Int), ((0 : Int), (0 : Int)))))).2, ())) fun (y2 : (Int × Unit)) =>
            bif (decide (y2.1 = (0 : Int))) then
              (gd ((0 : Int) ≤ x1.2) (gd (x1.2 < (((List.length x.1) : Nat) : Int)) (some (Sum.inl ((if (List.getD x.1 (Int.toNat x1.2) (((0 : Int), (0 : Int)), ((0 : Int), ((0 : Int), ((0 : Int), (0 : Int)))))).2.2.2.2 > x1.1 then (List.getD x.1 (Int.toNat x1.2) (((0 : Int), (0 : Int)), ((0 : Int), ((0 : Int), ((0 : Int), (0 : Int)))))).2.2.2.2 else x1.1), (Go.IntKind.wrap .i64 (x1.2 + (1 : Int))))))))
            else
              (some (Sum.inl (x1.1, (Go.IntKind.wrap .i64 (x1.2 + (1 : Int)))))))))
      else
        (some (Sum.inr x1.1))) ((0 : Int), (0 : Int))) fun (y1 : Int) =>
  some (y1, ())

noncomputable def r17 : PDen [(false, (.sl (.pair (.pair (.int .i64) (.int .i64)) (.pair (.int .i64) (.pair (.int .i64) (.pair (.int .i64) (.int .i64)))))))] → Option (PDen [(false, (.int .i64))]) := fun x => afun Try.prog (envOf [(18, ⟨[(true, (.pair (.int .i64) (.pair (.int .i64) (.pair (.int .i64) (.int .i64)))))], [(false, (.int .i64))], false, m18⟩)] [] [] []) ⟨[(0, ⟨[.slot 3 (.d false (.int .i64) true), .slot 4 (.d false (.int .i64) true)], [], [(some 0, [.slot 3 (.d false (.int .i64) true)])], none⟩)], []⟩ Try.f17 [(false, (.sl (.pair (.pair (.int .i64) (.int .i64)) (.pair (.int .i64) (.pair (.int .i64) (.pair (.int .i64) (.int .i64)))))))] [(false, (.int .i64))] false x
theorem r17_eq : r17 = m17 := by kernel_rfl

theorem c17 : CS.Sound Try.prog 17 ⟨[(false, (.sl (.pair (.pair (.int .i64) (.int .i64)) (.pair (.int .i64) (.pair (.int .i64) (.pair (.int .i64) (.int .i64)))))))], [(false, (.int .i64))], false, m17⟩ := afun_sound' (envOf_sound (CSs.cons c18 (CSs.nil)) (HDs.nil) (IDs.nil)) rfl Try.follows (f := 17) (fn := Try.f17) Try.func17 (by kernel_rfl) (by kernel_rfl) r17_eq
end Go.Proofs.Ytefekolpfklhdaa
end

section
/- What the two readings of a scan come to, with no program in sight. -/
namespace Go.Proofs.Ytefekolpfklhdaa
open Go Go.Proofs.AM

abbrev Rec := Int × (Int × (Int × Int))
abbrev Ent := (Int × Int) × Rec

def chk (r : Rec) : Bool := decide (1 ≤ r.1 ∧ r.1 ≤ 3 ∧ 0 ≤ r.2.1 ∧ r.2.1 < 1048576 ∧ 1 ≤ r.2.2.1 ∧ r.2.2.1 ≤ r.2.2.2 ∧ r.2.2.2 ≤ 1152921504606846976 ∧ (r.1 = 1 ∨ r.2.2.2 = r.2.2.1))
def okE (P : Int) (e : Ent) : Bool := chk e.2 && decide (¬ e.2.1 = 3 ∧ 0 ≤ e.1.1 ∧ e.1.1 < 256 ∧ 0 ≤ e.1.2 ∧ e.1.2 < P)

theorem m18_eq (r : Rec) : m18 (r, ()) = some (if chk r then 0 else 30, ()) := by
  obtain ⟨a, b, c, d⟩ := r
  unfold m18 chk
  simp only [Bool.cond_eq_ite, Bool.not_eq_true', decide_eq_true_eq, decide_eq_false_iff_not]
  repeat' split
  all_goals first | rfl | (exfalso; omega)

theorem m46_eq (r : Rec) : m46 (r, ()) = some (if chk r then 0 else 30, ()) := by
  obtain ⟨a, b, c, d⟩ := r
  unfold m46 chk
  simp only [Bool.cond_eq_ite, Bool.not_eq_true', decide_eq_true_eq, decide_eq_false_iff_not]
  repeat' split
  all_goals first | rfl | (exfalso; omega)

theorem m44_eq (P : Int) (e : Ent) : m44 (P, (e, ())) = some (okE P e, ()) := by
  unfold m44
  rw [m18_eq]
  unfold okE
  cases h : chk e.2
  · simp [h]
  · simp only [Option.bind_some, if_true, decide_true, Bool.cond_true, Bool.cond_eq_ite, Bool.not_eq_true', decide_eq_true_eq, decide_eq_false_iff_not, Bool.true_and]
    repeat' split
    all_goals (congr 2; rw [Bool.eq_iff_iff]; simp only [decide_eq_true_eq, Bool.false_eq_true, false_iff]; omega)

theorem m48_eq (a b c : Int) : m48 (a, (b, (c, ()))) = some (decide (b ≤ a ∧ a ≤ c), ()) := by
  unfold m48
  simp only [Bool.cond_eq_ite, decide_eq_true_eq]
  split <;> (congr 2; rw [Bool.eq_iff_iff]; simp only [decide_eq_true_eq, Bool.false_eq_true, false_iff]; omega)

theorem m68_eq {P : Int} (h1 : 4 ≤ P) (h2 : P ≤ 32) (e : Ent) : m68 (P, (e, ())) = some (okE P e, ()) := by
  unfold m68
  rw [m46_eq]
  unfold okE
  cases h : chk e.2
  · simp [h]
  · simp only [m48_eq, wrap64 (n := P - 1) (by omega) (by omega), Option.bind_some, if_true, decide_true, Bool.cond_true, Bool.cond_eq_ite, Bool.not_eq_true', decide_eq_true_eq, decide_eq_false_iff_not, Bool.true_and]
    repeat' split
    all_goals (congr 2; rw [Bool.eq_iff_iff]; simp only [decide_eq_true_eq, Bool.false_eq_true, false_iff]; omega)

def newer (a b : Rec) : Bool := decide (a.2.2.1 > b.2.2.1 ∨ (a.2.2.1 = b.2.2.1 ∧ a.2.2.2 < b.2.2.2))
theorem m69_eq (a b : Rec) : m69 (a, (b, ())) = some (newer a b, ()) := by
  unfold m69 newer
  simp only [Bool.cond_eq_ite, Bool.not_eq_true', decide_eq_true_eq, decide_eq_false_iff_not]
  repeat' split
  all_goals (congr 2; rw [Bool.eq_iff_iff]; simp only [decide_eq_true_eq, Bool.false_eq_true, false_iff, true_iff]; omega)
theorem m71_eq (a b : Rec) : m71 (a, (b, ())) = some (newer a b, ()) := by
  unfold m71 newer
  simp only [Bool.cond_eq_ite, Bool.not_eq_true', decide_eq_true_eq, decide_eq_false_iff_not]
  repeat' split
  all_goals (congr 2; rw [Bool.eq_iff_iff]; simp only [decide_eq_true_eq, Bool.false_eq_true, false_iff, true_iff]; omega)

def bt (a b : Ent) : Bool := newer a.2 b.2 || (!newer b.2 a.2 && decide (a.1.1 < b.1.1 ∨ (a.1.1 = b.1.1 ∧ a.1.2 < b.1.2)))
theorem m40_eq (a b : Ent) : m40 (a, (b, ())) = some (bt a b, ()) := by
  unfold m40 bt
  simp only [m69_eq, Option.bind_some]
  cases newer a.2 b.2 <;> cases newer b.2 a.2 <;> simp [Bool.cond_eq_ite]
  by_cases h : a.1.1 = b.1.1 <;> simp [h]
theorem m45_eq (a b : Ent) : m45 (a, (b, ())) = some (bt a b, ()) := by
  unfold m45 bt
  simp only [m71_eq, Option.bind_some]
  cases newer a.2 b.2 <;> cases newer b.2 a.2 <;> simp [Bool.cond_eq_ite]
  by_cases h : a.1.1 = b.1.1
  · simp [h]
  · by_cases h2 : a.1.1 < b.1.1 <;> simp [h, h2]

/-! ### a page's newest record -/
def bestStep (P p : Int) (o : Option Ent) (e : Ent) : Option Ent :=
  if okE P e = true ∧ e.2.2.1 = p then (match o with
    | none => some e
    | some b => if bt e b then some e else some b) else o
def best (P p : Int) (l : List Ent) : Option Ent := l.foldl (bestStep P p) none
def R (P : Int) (l : List Ent) (p : Nat) : Int × Int := match best P p l with
  | none => (-1, 0)
  | some e => e.1

theorem best_snoc (P p : Int) (l : List Ent) (e : Ent) : best P p (l ++ [e]) = bestStep P p (best P p l) e := by simp [best, List.foldl_append]

theorem take_snoc {A : Type} (l : List A) (i : Nat) (h : i < l.length) (z : A) : l.take (i + 1) = l.take i ++ [l.getD i z] := by
  rw [List.take_add_one, List.getD_eq_getElem?_getD, List.getElem?_eq_getElem h]; rfl

/-! ### slices of one thing repeated -/
theorem m89_one : ∀ n : Fin 1025, m89 (1, ((n.val : Int), ())) = some (0, ((n.val : Int), ())) := by
  unfold m89; decide +kernel

theorem rep_copy {A : Type} (a z : A) (N b : Nat) (hb : b < N) :
    (List.take b (List.replicate b a ++ List.replicate (N - b) z) ++ List.take (N - b) (List.take b (List.replicate b a ++ List.replicate (N - b) z)) ++ List.drop (b + min b (N - b)) (List.replicate b a ++ List.replicate (N - b) z)) = List.replicate (b + min b (N - b)) a ++ List.replicate (N - (b + min b (N - b))) z := by
  have e1 : List.take b (List.replicate b a ++ List.replicate (N - b) z) = List.replicate b a := by simp [List.take_append]
  rw [e1]
  have e2 : List.take (N - b) (List.replicate b a) = List.replicate (min b (N - b)) a := by rw [List.take_replicate, Nat.min_comm]
  rw [e2, List.replicate_append_replicate]
  congr 1
  rw [List.drop_append]
  simp [List.drop_replicate]
  omega

end Go.Proofs.Ytefekolpfklhdaa

namespace Go.Proofs.Ytefekolpfklhdaa
open Go Go.Proofs.AM

theorem m41_eq (a : Int × Int) (N : Nat) (n1 : 1 ≤ N) (n2 : N ≤ 1024) : m41 ([a], ((N : Int), ())) = some (List.replicate N a) := by
  have hm : m70 ((IntKind.wrap .u64 (((List.length [a]) : Nat) : Int)), ((IntKind.wrap .u64 (N : Int)), ())) = some (0, ((N : Int), ())) := by
    rw [wrapU64 (n := (N : Int)) (by omega) (by omega), wrapU64 (n := ((List.length [a] : Nat) : Int)) (by simp) (by simp)]
    unfold m70
    have := m89_one ⟨N, by omega⟩
    simp only [List.length_singleton] at this ⊢
    rw [show ((1 : Nat) : Int) = 1 from rfl, this]; rfl
  unfold m41
  simp only [hm, Option.bind_some]
  rw [wrap64 (n := (N : Int)) (by omega) (by omega)]
  simp only [Bool.cond_eq_ite, decide_eq_true_eq]
  rw [if_neg (by omega), if_neg (by omega), if_neg (by omega), gd_pos (by omega), gd_pos (by omega), gd_pos (by omega)]
  rw [loop_wf (e := List.replicate N a) (fun x e => ∃ b : Nat, 1 ≤ b ∧ b ≤ N ∧ x = ((b : Int), List.replicate b a ++ List.replicate (N - b) (0, 0)) ∧ e = List.replicate N a) (fun x => N - x.1.toNat)]
  · rfl
  · rintro x e ⟨b, b1, b2, rfl, rfl⟩
    have hl : (List.replicate b a ++ List.replicate (N - b) ((0 : Int), (0 : Int))).length = N := by simp; omega
    simp only [hl]
    by_cases hb : b < N
    · right
      refine ⟨(((b + min b (N - b) : Nat) : Int), _), ?_, ⟨b + min b (N - b), by omega, by omega, rfl, trivial⟩, ?_⟩
      · rw [if_pos (by omega), gd_pos (by omega), gd_pos (by omega), gd_pos (by omega), gd_pos (by omega), gd_pos (by omega)]
        simp only [Int.toNat_natCast, Int.toNat_zero, Nat.sub_zero, List.drop_zero, List.length_take, hl, Nat.min_eq_left b2]
        rw [rep_copy _ _ _ _ hb, wrap64 (by omega) (by omega)]
        congr 4
      · simp only [Int.toNat_natCast]; omega
    · left
      obtain rfl : b = N := by omega
      rw [if_neg (by omega)]
      simp
  · refine ⟨1, by omega, n1, ?_, rfl⟩
    simp only [List.length_singleton, List.length_replicate, Int.toNat_natCast]
    congr 1
    · omega
    · rw [List.drop_replicate, List.take_of_length_le (by simp; omega)]; rfl

theorem m66_eq (a : Int) (N : Nat) (n1 : 1 ≤ N) (n2 : N ≤ 1024) : m66 ([a], ((N : Int), ())) = some (List.replicate N a) := by
  have hm : m70 ((IntKind.wrap .u64 (((List.length [a]) : Nat) : Int)), ((IntKind.wrap .u64 (N : Int)), ())) = some (0, ((N : Int), ())) := by
    rw [wrapU64 (n := (N : Int)) (by omega) (by omega), wrapU64 (n := ((List.length [a] : Nat) : Int)) (by simp) (by simp)]
    unfold m70
    have := m89_one ⟨N, by omega⟩
    simp only [List.length_singleton] at this ⊢
    rw [show ((1 : Nat) : Int) = 1 from rfl, this]; rfl
  unfold m66
  simp only [hm, Option.bind_some]
  rw [wrap64 (n := (N : Int)) (by omega) (by omega)]
  simp only [Bool.cond_eq_ite, decide_eq_true_eq]
  rw [if_neg (by omega), if_neg (by omega), if_neg (by omega), gd_pos (by omega), gd_pos (by omega), gd_pos (by omega)]
  rw [loop_wf (e := List.replicate N a) (fun x e => ∃ b : Nat, 1 ≤ b ∧ b ≤ N ∧ x = ((b : Int), List.replicate b a ++ List.replicate (N - b) 0) ∧ e = List.replicate N a) (fun x => N - x.1.toNat)]
  · rfl
  · rintro x e ⟨b, b1, b2, rfl, rfl⟩
    have hl : (List.replicate b a ++ List.replicate (N - b) (0 : Int)).length = N := by simp; omega
    simp only [hl]
    by_cases hb : b < N
    · right
      refine ⟨(((b + min b (N - b) : Nat) : Int), _), ?_, ⟨b + min b (N - b), by omega, by omega, rfl, trivial⟩, ?_⟩
      · rw [if_pos (by omega), gd_pos (by omega), gd_pos (by omega), gd_pos (by omega), gd_pos (by omega), gd_pos (by omega)]
        simp only [Int.toNat_natCast, Int.toNat_zero, Nat.sub_zero, List.drop_zero, List.length_take, hl, Nat.min_eq_left b2]
        rw [rep_copy _ _ _ _ hb, wrap64 (by omega) (by omega)]
        congr 4
      · simp only [Int.toNat_natCast]; omega
    · left
      obtain rfl : b = N := by omega
      rw [if_neg (by omega)]
      simp
  · refine ⟨1, by omega, n1, ?_, rfl⟩
    simp only [List.length_singleton, List.length_replicate, Int.toNat_natCast]
    congr 1
    · omega
    · rw [List.drop_replicate, List.take_of_length_le (by simp; omega)]; rfl

def shelfOk (P L : Int) : Bool := decide (4 ≤ P ∧ P ≤ 32 ∧ 1 ≤ L ∧ L ≤ 256)

theorem m38_ok {P L : Int} (h : shelfOk P L = true) : ∃ v, m38 (P, (L, (1, ()))) = some (v, (0, ())) := by
  simp only [shelfOk, decide_eq_true_eq] at h
  obtain ⟨N, rfl⟩ : ∃ N : Nat, L = N := ⟨L.toNat, by omega⟩
  have hp : 0 ≤ (N : Int) * P ∧ (N : Int) * P ≤ 256 * 32 := ⟨Int.mul_nonneg (by omega) (by omega), by
    have := Int.mul_le_mul (a := (N : Int)) (b := P) (c := 256) (d := 32) (by omega) (by omega) (by omega) (by omega)
    exact this⟩
  unfold m38
  simp only [Bool.cond_eq_ite, decide_eq_true_eq]
  rw [if_neg (by omega), if_neg (by omega), if_neg (by omega), if_neg (by omega), if_neg (by omega), if_neg (by omega), m66_eq _ _ (by omega) (by omega), wrap64 (n := (N : Int) * P) (by omega) (by omega)]
  simp only [Option.bind_some]
  rw [gd_pos (by omega), gd_pos (by omega), gd_pos (by omega)]
  exact ⟨_, rfl⟩

theorem m38_bad {P L : Int} (h : shelfOk P L = false) : ∃ v, m38 (P, (L, (1, ()))) = some (v, (1, ())) := by
  simp only [shelfOk, decide_eq_false_iff_not] at h
  unfold m38
  simp only [Bool.cond_eq_ite, decide_eq_true_eq]
  repeat' split
  all_goals first | exact ⟨_, rfl⟩ | (exfalso; omega)

theorem m43_ok {P L : Int} (h : shelfOk P L = true) : ∃ v, m43 (P, (L, (1, ()))) = some (v, (0, ())) := by
  simp only [shelfOk, decide_eq_true_eq] at h
  obtain ⟨N, rfl⟩ : ∃ N : Nat, L = N := ⟨L.toNat, by omega⟩
  have hp : 0 ≤ P * (N : Int) ∧ P * (N : Int) ≤ 32 * 256 := ⟨Int.mul_nonneg (by omega) (by omega), by
    have := Int.mul_le_mul (a := P) (b := (N : Int)) (c := 32) (d := 256) (by omega) (by omega) (by omega) (by omega)
    exact this⟩
  unfold m43
  simp only [Bool.cond_eq_ite, decide_eq_true_eq]
  rw [if_neg (by omega), if_neg (by omega), if_neg (by omega), if_neg (by omega), if_neg (by omega), if_neg (by omega), wrap64 (n := P * (N : Int)) (by omega) (by omega)]
  rw [loop_idx' N (fun i => ((i : Int), (P, ((N : Int), (1, (List.replicate i (-1 : Int), ([], (0, (0, (0, [])))))))))) ?_ ?_ (e := (P, ((N : Int), (1, (List.replicate N (-1 : Int), ([], (0, (0, (0, []))))))))) ?_]
  · simp only [Option.bind_some]
    rw [gd_pos (by omega), gd_pos (by omega), gd_pos (by omega)]
    exact ⟨_, rfl⟩
  · rfl
  · intro i hi
    simp only
    rw [if_pos (by omega), gd_pos (by simp; omega), gd_pos (by simp; omega), wrap64 (by omega) (by omega)]
    simp only [List.replicate_succ', Int.natCast_add, Int.natCast_one]
  · simp only
    rw [if_neg (by omega)]

theorem m43_bad {P L : Int} (h : shelfOk P L = false) : ∃ v, m43 (P, (L, (1, ()))) = some (v, (1, ())) := by
  simp only [shelfOk, decide_eq_false_iff_not] at h
  unfold m43
  simp only [Bool.cond_eq_ite, decide_eq_true_eq]
  repeat' split
  all_goals first | exact ⟨_, rfl⟩ | (exfalso; omega)

theorem m13_eq (l : List (Int × Int)) (h : l.length ≤ 1000000) : m13 (l, (l, ())) = some (true, ()) := by
  unfold m13
  simp only [Bool.cond_eq_ite, decide_eq_true_eq, decide_true, Bool.not_true, Bool.false_eq_true, if_false, Bool.and_self]
  rw [loop_idx' l.length (fun i => (i : Int)) ?_ ?_ (e := .inl ()) ?_]
  · rfl
  · rfl
  · intro i hi
    rw [if_pos (by omega), gd_pos (by omega), gd_pos (by omega), gd_pos (by omega), gd_pos (by omega), wrap64 (by omega) (by omega)]
    rfl
  · rw [if_neg (by omega)]

def great (l : List Ent) : Nat → Int
  | 0 => 0
  | i + 1 => if chk (l.getD i ((0, 0), (0, (0, (0, 0))))).2 = true then (if (l.getD i ((0, 0), (0, (0, (0, 0))))).2.2.2.2 > great l i then (l.getD i ((0, 0), (0, (0, (0, 0))))).2.2.2.2 else great l i) else great l i

theorem m16_eq (l : List Ent) (h : l.length ≤ 1000000) : m16 (l, ()) = some (great l l.length, ()) := by
  unfold m16
  simp only [Bool.cond_eq_ite, decide_eq_true_eq]
  rw [loop_idx' l.length (fun i => (great l i, (i : Int))) ?_ ?_ (e := great l l.length) ?_]
  · rfl
  · rfl
  · intro i hi
    simp only
    rw [if_pos (by omega), gd_pos (by omega), gd_pos (by omega), wrap64 (by omega) (by omega), Int.toNat_natCast, m46_eq]
    simp only [Option.bind_some, great]
    cases chk (l.getD i ((0, 0), (0, (0, (0, 0))))).2 <;> simp
  · simp only
    rw [if_neg (by omega)]

theorem m17_eq (l : List Ent) (h : l.length ≤ 1000000) : m17 (l, ()) = some (great l l.length, ()) := by
  unfold m17
  simp only [Bool.cond_eq_ite, decide_eq_true_eq]
  rw [loop_idx' l.length (fun i => (great l i, (i : Int))) ?_ ?_ (e := great l l.length) ?_]
  · rfl
  · rfl
  · intro i hi
    simp only
    rw [if_pos (by omega), gd_pos (by omega), gd_pos (by omega), wrap64 (by omega) (by omega), Int.toNat_natCast, m18_eq]
    simp only [Option.bind_some, great]
    rw [gd_pos (by omega), gd_pos (by omega)]
    cases chk (l.getD i ((0, 0), (0, (0, (0, 0))))).2 <;> simp
  · simp only
    rw [if_neg (by omega)]
end Go.Proofs.Ytefekolpfklhdaa

namespace Go.Proofs.Ytefekolpfklhdaa
open Go Go.Proofs.AM

abbrev z0 : Ent := ((0, 0), (0, (0, (0, 0))))

def pick (P N : Int) (m : List (Int × Ent)) (e : Ent) : List (Int × Ent) :=
  if okE P e = true ∧ e.2.2.1 < N then (match ifind m e.2.2.1 with
    | none => mset (false, .int .i64) m e.2.2.1 e
    | some b => if bt e b = true then mset (false, .int .i64) m e.2.2.1 e else m) else m
def picks (P N : Int) (l : List Ent) : List (Int × Ent) := l.foldl (pick P N) []

theorem okE_page {P : Int} {e : Ent} (h : okE P e = true) : 0 ≤ e.2.2.1 := by
  simp only [okE, chk, Bool.and_eq_true, decide_eq_true_eq] at h; omega

theorem bestStep_page {P p : Int} {l : List Ent} {b : Ent} (h : best P p l = some b) : b.2.2.1 = p ∧ okE P b = true := by
  suffices H : ∀ (l : List Ent) (o : Option Ent), (∀ b, o = some b → b.2.2.1 = p ∧ okE P b = true) → ∀ b, l.foldl (bestStep P p) o = some b → b.2.2.1 = p ∧ okE P b = true from
    H l none (fun b h => by simp at h) b h
  intro l
  induction l with
  | nil => intro o ho b hb; exact ho b hb
  | cons e l ih =>
    intro o ho b hb
    refine ih _ ?_ b hb
    intro b hb
    unfold bestStep at hb
    split at hb
    · rename_i hc
      split at hb
      · simp at hb; subst hb; exact ⟨hc.2, hc.1⟩
      · split at hb
        · simp at hb; subst hb; exact ⟨hc.2, hc.1⟩
        · exact ho b hb
    · exact ho b hb

theorem picks_ok (P N : Int) (l : List Ent) : ((picks P N l).map Prod.fst).Nodup ∧ (∀ k, k ∈ (picks P N l).map Prod.fst → 0 ≤ k ∧ k < N) ∧ ∀ p, p < N → ifind (picks P N l) p = best P p l := by
  suffices H : ∀ (l : List Ent) (m : List (Int × Ent)) (o : Int → Option Ent), ((m.map Prod.fst).Nodup ∧ (∀ k, k ∈ m.map Prod.fst → 0 ≤ k ∧ k < N) ∧ ∀ p, p < N → ifind m p = o p) →
      (((l.foldl (pick P N) m).map Prod.fst).Nodup ∧ (∀ k, k ∈ (l.foldl (pick P N) m).map Prod.fst → 0 ≤ k ∧ k < N) ∧ ∀ p, p < N → ifind (l.foldl (pick P N) m) p = l.foldl (bestStep P p) (o p)) from
    H l [] (fun _ => none) ⟨by simp, by simp, fun p _ => rfl⟩
  intro l
  induction l with
  | nil => intro m o h; exact h
  | cons e l ih =>
    intro m o h
    refine ih (pick P N m e) (fun p => bestStep P p (o p) e) ?_
    obtain ⟨h1, h2, h3⟩ := h
    unfold pick
    by_cases hc : okE P e = true ∧ e.2.2.1 < N
    · have set : ∀ (q : ∀ p, p < N → (if p = e.2.2.1 then some e else ifind m p) = bestStep P p (o p) e), ((mset (false, .int .i64) m e.2.2.1 e).map Prod.fst).Nodup ∧ (∀ k, k ∈ (mset (false, .int .i64) m e.2.2.1 e).map Prod.fst → 0 ≤ k ∧ k < N) ∧ ∀ p, p < N → ifind (mset (false, .int .i64) m e.2.2.1 e) p = bestStep P p (o p) e := by
        intro q
        refine ⟨mset_nodup _ _ _ h1, fun k hk => ?_, fun p hp => ?_⟩
        · rcases mset_keys _ _ _ _ hk with rfl | hk
          · exact ⟨okE_page hc.1, hc.2⟩
          · exact h2 k hk
        · rw [mset_ifind]; exact q p hp
      rw [if_pos hc]
      cases hf : ifind m e.2.2.1 with
      | none =>
        refine set fun p hp => ?_
        unfold bestStep
        by_cases hpe : p = e.2.2.1
        · subst hpe
          rw [if_pos rfl, if_pos ⟨hc.1, rfl⟩, ← h3 _ hp, hf]
        · rw [if_neg hpe, if_neg (fun h => hpe h.2.symm)]; exact h3 p hp
      | some b =>
        by_cases hb : bt e b = true
        · simp only [hb, if_true]
          refine set fun p hp => ?_
          unfold bestStep
          by_cases hpe : p = e.2.2.1
          · subst hpe
            rw [if_pos rfl, if_pos ⟨hc.1, rfl⟩, ← h3 _ hp, hf]; simp [hb]
          · rw [if_neg hpe, if_neg (fun h => hpe h.2.symm)]; exact h3 p hp
        · simp only [hb]
          refine ⟨h1, h2, fun p hp => ?_⟩
          show ifind m p = _
          unfold bestStep
          by_cases hpe : p = e.2.2.1
          · subst hpe
            rw [if_pos ⟨hc.1, rfl⟩, ← h3 _ hp, hf]; simp [hb]
          · rw [if_neg (fun h : okE P e = true ∧ e.2.2.1 = p => hpe h.2.symm)]; exact h3 p hp
    · rw [if_neg hc]
      refine ⟨h1, h2, fun p hp => ?_⟩
      unfold bestStep
      rw [if_neg (fun h : okE P e = true ∧ e.2.2.1 = p => hc ⟨h.1, h.2 ▸ hp⟩)]
      exact h3 p hp

theorem picks_snoc (P N : Int) (l : List Ent) (e : Ent) : picks P N (l ++ [e]) = pick P N (picks P N l) e := by simp [picks, List.foldl_append]

theorem m14_eq' (P L : Int) (l : List Ent) (hs : shelfOk P L = true) (hL : L * P ≤ 1024) (hl : l.length ≤ 1000000) : m14 (P, (L, (l, ()))) = some ((List.range (P * L).toNat).map (R P l), ()) := by
  have hs' := hs
  simp only [shelfOk, decide_eq_true_eq] at hs'
  have hp : 0 < L * P ∧ L * P ≤ 32 * 32 := ⟨Int.mul_pos (by omega) (by omega), by omega⟩
  obtain ⟨v, hv⟩ := m38_ok hs
  have hN : L * P = ((L * P).toNat : Int) := by omega
  have hPL : P * L = L * P := Int.mul_comm _ _
  obtain ⟨k1, k2, k3⟩ := picks_ok P (L * P) l
  unfold m14
  simp only [hv, Option.bind_some, Bool.cond_eq_ite, decide_eq_true_eq, decide_true, Bool.not_true, Bool.false_eq_true, if_false]
  rw [wrap64 (n := L * P) (by omega) (by omega)]
  rw [loop_idx' l.length (fun i => ((i : Int), picks P (L * P) (l.take i))) ?_ ?_ (e := picks P (L * P) l) ?_]
  · simp only [Option.bind_some, m42]
    have h41 := m41_eq (-1, 0) (L * P).toNat (by omega) (by omega)
    rw [← hN] at h41
    rw [h41]
    simp only [Option.bind_some]
    rw [anyM_of (e := (List.range (L * P).toNat).map (R P l)) (fun w (x : List (Int × Int)) => x.length = (L * P).toNat ∧ (w.map Prod.fst).Nodup ∧ (∀ q, q ∈ w → q ∈ picks P (L * P) l) ∧ ∀ p : Nat, p < (L * P).toNat → ((p : Int) ∉ w.map Prod.fst) → x[p]? = some (R P l p))]
    · rw [hPL]; rfl
    · rintro w x ⟨q1, q2, q3, q4⟩ j p hj
      left
      have hm : p ∈ w := List.mem_of_getElem? hj
      have hk := k2 p.1 (List.mem_map_of_mem (f := Prod.fst) (q3 _ hm))
      refine ⟨x.set p.1.toNat p.2.1, ?_, ?_⟩
      · rw [gd_pos (by omega), gd_pos (by omega), gd_pos (by omega)]
      · have hw : w.map Prod.fst = (w.map Prod.fst) := rfl
        refine ⟨by simp [q1], ?_, fun q hq => q3 q (List.mem_of_mem_eraseIdx hq), fun i hi hn => ?_⟩
        · exact q2.sublist ((List.eraseIdx_sublist _ _).map _)
        · rw [List.getElem?_set]
          by_cases hip : p.1.toNat = i
          · rw [if_pos hip, if_pos (by omega)]
            have hf := ifind_mem k1 (show (p.1, p.2) ∈ picks P (L * P) l from q3 _ hm)
            rw [k3 _ hk.2] at hf
            unfold R
            rw [show (i : Int) = p.1 by omega, hf]
          · rw [if_neg hip]
            refine q4 i hi fun hc => ?_
            obtain ⟨q, hq, hqi⟩ := List.mem_map.1 hc
            refine hn (List.mem_map.2 ⟨q, ?_, hqi⟩)
            rw [List.mem_eraseIdx_iff_getElem?]
            obtain ⟨j', hj'⟩ := List.mem_iff_getElem?.1 hq
            refine ⟨j', fun e => ?_, hj'⟩
            subst e
            rw [hj] at hj'
            obtain rfl : p = q := by simpa using hj'
            omega
    · rintro x ⟨q1, -, -, q4⟩
      congr 2
      refine List.ext_getElem? fun i => ?_
      by_cases hi : i < (L * P).toNat
      · rw [q4 i hi (by simp)]; simp [hi]
      · rw [List.getElem?_eq_none (by omega), List.getElem?_eq_none (by simp; omega)]
    · refine ⟨by simp, k1, fun q hq => hq, fun p hp hn => ?_⟩
      rw [List.getElem?_replicate, if_pos hp]
      have := ifind_none hn
      rw [k3 _ (by omega)] at this
      unfold R; rw [this]
  · rfl
  · intro i hi
    simp only
    rw [if_pos (by omega), gd_pos (by omega), gd_pos (by omega), m68_eq (by omega) (by omega)]
    rw [take_snoc l i hi ((0, 0), (0, (0, (0, 0)))), picks_snoc]
    simp only [Int.toNat_natCast]
    generalize l.getD i ((0, 0), (0, (0, (0, 0)))) = e
    simp only [ Option.bind_some, mhas_ifind, mget_ifind, m40_eq, wrap64 (n := (i : Int) + 1) (by omega) (by omega)]
    unfold pick
    by_cases h1 : okE P e = true
    · rw [if_pos h1]
      by_cases h2 : e.2.2.1 < L * P
      · have hc : okE P e = true ∧ e.2.2.1 < L * P := ⟨h1, h2⟩
        rw [if_neg (show ¬ e.2.2.1 ≥ L * P by omega), if_pos hc]
        cases h3 : ifind (picks P (L * P) (l.take i)) e.2.2.1 with
        | none => simp
        | some b =>
          by_cases h4 : bt e b = true <;> simp [h4]
      · rw [if_pos (show e.2.2.1 ≥ L * P by omega), if_neg (fun h : okE P e = true ∧ e.2.2.1 < L * P => h2 h.2)]; rfl
    · rw [if_neg h1, if_neg (fun h : okE P e = true ∧ e.2.2.1 < L * P => h1 h.1)]; rfl
  · simp only [List.take_length]
    rw [if_neg (by omega)]

theorem m14_eq (P L : Int) (l : List Ent) (hs : shelfOk P L = true) (hL : L ≤ 32) (hl : l.length ≤ 1000000) : m14 (P, (L, (l, ()))) = some ((List.range (P * L).toNat).map (R P l), ()) := by
  have hs' := hs
  simp only [shelfOk, decide_eq_true_eq] at hs'
  exact m14_eq' P L l hs (by have := Int.mul_le_mul (a := L) (b := P) (c := 32) (d := 32) (by omega) (by omega) (by omega) (by omega); omega) hl

theorem m14_bad (P L : Int) (l : List Ent) (hs : shelfOk P L = false) : m14 (P, (L, (l, ()))) = some ([], ()) := by
  obtain ⟨v, hv⟩ := m38_bad hs
  unfold m14
  simp only [hv, Option.bind_some]; rfl

theorem m15_bad (P L : Int) (l : List Ent) (hs : shelfOk P L = false) : m15 (P, (L, (l, ()))) = some ([], ()) := by
  obtain ⟨v, hv⟩ := m43_bad hs
  unfold m15
  simp only [hv, Option.bind_some]; rfl

def bIdx (P p : Int) (l : List Ent) : Nat → Int
  | 0 => -1
  | j + 1 => if okE P (l.getD j z0) = true ∧ (l.getD j z0).2.2.1 = p then (if bIdx P p l j < 0 then j else if bt (l.getD j z0) (l.getD (bIdx P p l j).toNat z0) = true then j else bIdx P p l j) else bIdx P p l j

theorem bIdx_ok (P p : Int) (l : List Ent) : ∀ j, j ≤ l.length → (bIdx P p l j < 0 ∧ best P p (l.take j) = none) ∨ (0 ≤ bIdx P p l j ∧ bIdx P p l j < j ∧ best P p (l.take j) = some (l.getD (bIdx P p l j).toNat z0))
  | 0, _ => .inl ⟨by simp [bIdx], rfl⟩
  | j + 1, hj => by
    have ih := bIdx_ok P p l j (by omega)
    rw [take_snoc l j (by omega) z0, best_snoc]
    unfold bIdx bestStep
    by_cases hc : okE P (l.getD j z0) = true ∧ (l.getD j z0).2.2.1 = p
    · rw [if_pos hc, if_pos hc]
      rcases ih with ⟨h1, h2⟩ | ⟨h1, h2, h3⟩
      · right; rw [if_pos h1, h2]; exact ⟨by omega, by omega, by simp⟩
      · rw [if_neg (by omega), h3]
        by_cases hb : bt (l.getD j z0) (l.getD (bIdx P p l j).toNat z0) = true
        · right; simp only [hb, if_true]; exact ⟨by omega, by omega, by simp⟩
        · right; simp only [hb]; exact ⟨by simp; omega, by simp; omega, by simp⟩
    · rw [if_neg hc, if_neg hc]
      rcases ih with h | ⟨h1, h2, h3⟩
      · exact .inl h
      · right; exact ⟨h1, by omega, h3⟩

theorem m15_eq (P L : Int) (l : List Ent) (hs : shelfOk P L = true) (hL : L ≤ 32) (hl : l.length ≤ 1000000) : m15 (P, (L, (l, ()))) = some ((List.range (P * L).toNat).map (R P l), ()) := by
  have hs' := hs
  simp only [shelfOk, decide_eq_true_eq] at hs'
  have hp : 0 < P * L ∧ P * L ≤ 32 * 32 := ⟨Int.mul_pos (by omega) (by omega), Int.mul_le_mul (a := P) (b := L) (c := 32) (d := 32) (by omega) (by omega) (by omega) (by omega)⟩
  obtain ⟨v, hv⟩ := m43_ok hs
  unfold m15
  simp only [hv, Option.bind_some, Bool.cond_eq_ite, decide_eq_true_eq, decide_true, Bool.not_true, Bool.false_eq_true, if_false]
  rw [wrap64 (n := P * L) (by omega) (by omega)]
  rw [loop_idx' (P * L).toNat (fun i => ((List.range i).map (R P l), (i : Int))) ?_ ?_ (e := (List.range (P * L).toNat).map (R P l)) ?_]
  · rfl
  · rfl
  · intro i hi
    simp only
    rw [if_pos (by omega)]
    rw [loop_idx' l.length (fun j => (bIdx P i l j, (j : Int))) ?_ ?_ (e := bIdx P i l l.length) ?_]
    · have hb := bIdx_ok P i l l.length (Nat.le_refl _)
      rw [List.take_length] at hb
      have hR : R P l i = match best P i l with
        | none => (-1, 0)
        | some e => e.1 := rfl
      simp only [Option.bind_some, List.length_map, List.length_range, List.length_singleton, List.range_succ, List.map_append, List.map_cons, List.map_nil]
      rcases hb with ⟨h1, h2⟩ | ⟨h1, h2, h3⟩
      · rw [if_pos h1, gd_pos (by omega), gd_pos (by omega), wrap64 (by omega) (by omega), hR, h2]; simp
      · rw [if_neg (by omega), gd_pos (by omega), gd_pos (by omega), gd_pos (by omega), gd_pos (by omega), wrap64 (by omega) (by omega), hR, h3]; simp
    · rfl
    · intro j hj
      have hb := bIdx_ok P i l j (by omega)
      simp only
      rw [if_pos (by omega), gd_pos (by omega), gd_pos (by omega), m44_eq]
      simp only [Int.toNat_natCast, Option.bind_some, m45_eq, wrap64 (n := (j : Int) + 1) (by omega) (by omega)]
      rw [show bIdx P i l (j + 1) = if okE P (l.getD j z0) = true ∧ (l.getD j z0).2.2.1 = i then (if bIdx P i l j < 0 then (j : Int) else if bt (l.getD j z0) (l.getD (bIdx P i l j).toNat z0) = true then (j : Int) else bIdx P i l j) else bIdx P i l j from rfl]
      by_cases c1 : okE P (l.getD j z0) = true
      · rw [if_pos c1]
        by_cases c2 : (l.getD j z0).2.2.1 = i
        · rw [if_pos c2]
          have hc : okE P (l.getD j z0) = true ∧ (l.getD j z0).2.2.1 = i := ⟨c1, c2⟩
          rw [if_pos hc]
          rcases hb with ⟨h1, h2⟩ | ⟨h1, h2, h3⟩
          · rw [if_pos h1, if_pos h1]; rfl
          · rw [if_neg (show ¬ bIdx P i l j < 0 by omega), if_neg (show ¬ bIdx P i l j < 0 by omega), gd_pos (by omega), gd_pos (by omega)]
            by_cases c3 : bt (l.getD j z0) (l.getD (bIdx P i l j).toNat z0) = true
            · rw [if_pos c3, if_pos c3]; rfl
            · rw [if_neg c3, if_neg c3]; rfl
        · rw [if_neg c2, if_neg (fun h : okE P (l.getD j z0) = true ∧ (l.getD j z0).2.2.1 = i => c2 h.2)]; rfl
      · rw [if_neg c1, if_neg (fun h : okE P (l.getD j z0) = true ∧ (l.getD j z0).2.2.1 = i => c1 h.1)]; rfl
    · simp only
      rw [if_neg (by omega)]
  · simp only
    rw [if_neg (by omega)]

theorem m11_eq : m11 () = some (true, ()) := by
  unfold m11
  rw [m14_eq 4 2 _ (by decide) (by decide) (by simp), m16_eq _ (by simp)]
  rfl
end Go.Proofs.Ytefekolpfklhdaa
end

section
/- What function 19 (slices.Clone(()slipway/api.Found,slipway/api.Found)) computes, by the kernel. -/
open Go Go.Proofs.AM
namespace Go.Proofs.Ytefekolpfklhdaa

noncomputable def m19 (x : (List ((Int × Int) × (Int × (Int × (Int × Int))))) × Unit) : Option (List ((Int × Int) × (Int × (Int × (Int × Int))))) :=
  both (bif (decide ((((List.length x.1) : Nat) : Int) = (0 : Int))) then
      (some ([] : List ((Int × Int) × (Int × (Int × (Int × Int))))))
    else
      (gd ((((List.length ([] : List ((Int × Int) × (Int × (Int × (Int × Int)))))) + (List.length x.1)) * 48) ≤ 140737488355328) (gd (((List.length ([] : List ((Int × Int) × (Int × (Int × (Int × Int)))))) + (List.length x.1)) ≤ 140737488355328) (some (([] : List ((Int × Int) × (Int × (Int × (Int × Int))))) ++ x.1))))) (gd ((((List.length ([] : List ((Int × Int) × (Int × (Int × (Int × Int)))))) + (List.length x.1)) * 48) ≤ 140737488355328) (gd (((List.length ([] : List ((Int × Int) × (Int × (Int × (Int × Int)))))) + (List.length x.1)) ≤ 140737488355328) (some (([] : List ((Int × Int) × (Int × (Int × (Int × Int))))) ++ x.1))))

noncomputable def r19 : PDen [(false, (.sl (.pair (.pair (.int .i64) (.int .i64)) (.pair (.int .i64) (.pair (.int .i64) (.pair (.int .i64) (.int .i64)))))))] → Option (List (K.den (.pair (.pair (.int .i64) (.int .i64)) (.pair (.int .i64) (.pair (.int .i64) (.pair (.int .i64) (.int .i64))))))) := fun x => afunO Try.prog (envOf [] [] [] []) ⟨[], []⟩ Try.f19 [(false, (.sl (.pair (.pair (.int .i64) (.int .i64)) (.pair (.int .i64) (.pair (.int .i64) (.pair (.int .i64) (.int .i64)))))))] 40 (.pair (.pair (.int .i64) (.int .i64)) (.pair (.int .i64) (.pair (.int .i64) (.pair (.int .i64) (.int .i64))))) false x
theorem r19_eq : r19 = m19 := by kernel_rfl

theorem c19 : OS.Sound Try.prog 19 ⟨[(false, (.sl (.pair (.pair (.int .i64) (.int .i64)) (.pair (.int .i64) (.pair (.int .i64) (.pair (.int .i64) (.int .i64)))))))], 40, (.pair (.pair (.int .i64) (.int .i64)) (.pair (.int .i64) (.pair (.int .i64) (.pair (.int .i64) (.int .i64))))), false, m19⟩ := afunO_sound' (envOf_sound (CSs.nil) (HDs.nil) (IDs.nil)) rfl Try.follows (f := 19) (fn := Try.f19) Try.func19 (by kernel_rfl) (by kernel_rfl) r19_eq
end Go.Proofs.Ytefekolpfklhdaa
end

section
/- The newest of what was found does not hang on the order; what is older counts for nothing. -/
namespace Go.Proofs.Ytefekolpfklhdaa
open Go Go.Proofs.AM

theorem bt_iff (a b : Ent) : bt a b = true ↔ (a.2.2.2.1 > b.2.2.2.1 ∨ (a.2.2.2.1 = b.2.2.2.1 ∧ (a.2.2.2.2 < b.2.2.2.2 ∨ (a.2.2.2.2 = b.2.2.2.2 ∧ (a.1.1 < b.1.1 ∨ (a.1.1 = b.1.1 ∧ a.1.2 < b.1.2)))))) := by
  unfold bt newer
  simp only [Bool.or_eq_true, Bool.and_eq_true, Bool.not_eq_true', decide_eq_true_eq, decide_eq_false_iff_not]
  omega

def Has (P p : Int) (e : Ent) : Prop := okE P e = true ∧ e.2.2.1 = p

def Best (P p : Int) (d : List Ent) (o : Option Ent) : Prop :=
  (o = none ∧ ∀ e ∈ d, ¬ Has P p e) ∨ ∃ b ∈ d, o = some b ∧ Has P p b ∧ ∀ e ∈ d, Has P p e → ¬ bt e b = true

theorem best_spec (P p : Int) (l : List Ent) : Best P p l (best P p l) := by
  suffices H : ∀ (l d : List Ent) (o : Option Ent), Best P p d o → Best P p (d ++ l) (l.foldl (bestStep P p) o) by
    exact H l [] none (.inl ⟨rfl, by simp⟩)
  intro l
  induction l with
  | nil => intro d o h; simpa using h
  | cons e l ih =>
    intro d o h
    have hs : Best P p (d ++ [e]) (bestStep P p o e) := by
      unfold bestStep
      by_cases hc : okE P e = true ∧ e.2.2.1 = p
      · rw [if_pos hc]
        rcases h with ⟨rfl, h⟩ | ⟨b, hb, rfl, hP, h⟩
        · refine .inr ⟨e, by simp, rfl, hc, fun x hx hx2 => ?_⟩
          rcases List.mem_append.1 hx with hx | hx
          · exact absurd hx2 (h x hx)
          · obtain rfl : x = e := by simpa using hx
            rw [bt_iff]; omega
        · by_cases hbt : bt e b = true
          · simp only [hbt, if_true]
            refine .inr ⟨e, by simp, rfl, hc, fun x hx hx2 => ?_⟩
            rcases List.mem_append.1 hx with hx | hx
            · have := h x hx hx2
              rw [bt_iff] at this hbt ⊢
              omega
            · obtain rfl : x = e := by simpa using hx
              rw [bt_iff]; omega
          · simp only [hbt]
            refine .inr ⟨b, by simp [hb], rfl, hP, fun x hx hx2 => ?_⟩
            rcases List.mem_append.1 hx with hx | hx
            · exact h x hx hx2
            · obtain rfl : x = e := by simpa using hx
              exact hbt
      · rw [if_neg hc]
        rcases h with ⟨rfl, h⟩ | ⟨b, hb, rfl, hP, h⟩
        · refine .inl ⟨rfl, fun x hx => ?_⟩
          rcases List.mem_append.1 hx with hx | hx
          · exact h x hx
          · obtain rfl : x = e := by simpa using hx
            exact hc
        · refine .inr ⟨b, by simp [hb], rfl, hP, fun x hx hx2 => ?_⟩
          rcases List.mem_append.1 hx with hx | hx
          · exact h x hx hx2
          · obtain rfl : x = e := by simpa using hx
            exact absurd hx2 hc
    have := ih (d ++ [e]) _ hs
    simpa using this

theorem R_same {P : Int} {l l' : List Ent} (h : ∀ e, okE P e = true → (e ∈ l ↔ e ∈ l')) (p : Nat) : R P l p = R P l' p := by
  unfold R
  rcases best_spec P p l with ⟨e1, h1⟩ | ⟨b, hb, e1, hP, h1⟩ <;> rcases best_spec P p l' with ⟨e2, h2⟩ | ⟨b', hb', e2, hP', h2⟩
  · rw [e1, e2]
  · exact absurd hP' (h1 b' ((h b' hP'.1).2 hb'))
  · exact absurd hP (h2 b ((h b hP.1).1 hb))
  · rw [e1, e2]
    have a1 := h1 b' ((h b' hP'.1).2 hb') hP'
    have a2 := h2 b ((h b hP.1).1 hb) hP
    rw [bt_iff] at a1 a2
    exact Prod.ext (by simp only; omega) (by simp only; omega)

theorem R_old {P : Int} {l : List Ent} {f old : Ent} (hf : f ∈ l) (hk : okE P f = true) (hp : old.2.2.1 = f.2.2.1) (hb : bt f old = true) (p : Nat) : R P (l ++ [old]) p = R P l p := by
  unfold R
  rw [best_snoc]
  unfold bestStep
  by_cases hc : okE P old = true ∧ old.2.2.1 = (p : Int)
  · rw [if_pos hc]
    rcases best_spec P p l with ⟨e1, h1⟩ | ⟨b, hb', e1, hP, h1⟩
    · exact absurd ⟨hk, hp ▸ hc.2⟩ (h1 f hf)
    · rw [e1]
      have := h1 f hf ⟨hk, hp ▸ hc.2⟩
      have hn : ¬ bt old b = true := by rw [bt_iff] at this hb ⊢; omega
      simp only [hn]
      rfl
  · rw [if_neg hc]

theorem great_spec (l : List Ent) : ∀ n, n ≤ l.length → 0 ≤ great l n ∧ (∀ e ∈ l.take n, chk e.2 = true → e.2.2.2.2 ≤ great l n) ∧ (great l n = 0 ∨ ∃ e ∈ l.take n, chk e.2 = true ∧ e.2.2.2.2 = great l n)
  | 0, _ => ⟨by simp [great], by simp, .inl rfl⟩
  | n + 1, h => by
    obtain ⟨h1, h2, h3⟩ := great_spec l n (by omega)
    rw [take_snoc l n (by omega) ((0, 0), (0, (0, (0, 0))))]
    unfold great
    generalize he : l.getD n ((0, 0), (0, (0, (0, 0)))) = e
    by_cases hc : chk e.2 = true
    · rw [if_pos hc]
      by_cases hg : e.2.2.2.2 > great l n
      · rw [if_pos hg]
        refine ⟨by omega, fun x hx hx2 => ?_, .inr ⟨e, by simp, hc, rfl⟩⟩
        rcases List.mem_append.1 hx with hx | hx
        · have := h2 x hx hx2; omega
        · obtain rfl : x = e := by simpa using hx
          omega
      · rw [if_neg hg]
        refine ⟨h1, fun x hx hx2 => ?_, ?_⟩
        · rcases List.mem_append.1 hx with hx | hx
          · exact h2 x hx hx2
          · obtain rfl : x = e := by simpa using hx
            omega
        · rcases h3 with h3 | ⟨x, hx, h3⟩
          · exact .inl h3
          · exact .inr ⟨x, by simp [hx], h3⟩
    · rw [if_neg hc]
      refine ⟨h1, fun x hx hx2 => ?_, ?_⟩
      · rcases List.mem_append.1 hx with hx | hx
        · exact h2 x hx hx2
        · obtain rfl : x = e := by simpa using hx
          exact absurd hx2 hc
      · rcases h3 with h3 | ⟨x, hx, h3⟩
        · exact .inl h3
        · exact .inr ⟨x, by simp [hx], h3⟩

theorem great_same {l l' : List Ent} (h : ∀ e, e ∈ l ↔ e ∈ l') : great l l.length = great l' l'.length := by
  obtain ⟨a1, a2, a3⟩ := great_spec l l.length (Nat.le_refl _)
  obtain ⟨b1, b2, b3⟩ := great_spec l' l'.length (Nat.le_refl _)
  rw [List.take_length] at a2 a3 b2 b3
  have le1 : great l l.length ≤ great l' l'.length := by
    rcases a3 with a3 | ⟨e, he, hc, a3⟩
    · omega
    · rw [← a3]; exact b2 e ((h e).1 he) hc
  have le2 : great l' l'.length ≤ great l l.length := by
    rcases b3 with b3 | ⟨e, he, hc, b3⟩
    · omega
    · rw [← b3]; exact a2 e ((h e).2 he) hc
  omega

theorem m19_eq (l : List Ent) (h : l.length ≤ 1000000) : m19 (l, ()) = some l := by
  unfold m19
  simp only [Bool.cond_eq_ite, decide_eq_true_eq]
  have h1 : (List.length ([] : List Ent) + l.length) * 48 ≤ 140737488355328 := by simp; omega
  have h2 : List.length ([] : List Ent) + l.length ≤ 140737488355328 := by simp; omega
  rw [gd_pos h1, gd_pos h2]
  by_cases h0 : ((l.length : Nat) : Int) = 0
  · rw [if_pos h0]
    obtain rfl : l = [] := List.length_eq_zero_iff.1 (by omega)
    simp [both]
  · rw [if_neg h0]
    simp [both]
end Go.Proofs.Ytefekolpfklhdaa
end

section
/- What function 51 (slipway/slipwayref05.seq) computes, by the kernel. -/
open Go Go.Proofs.AM
namespace Go.Proofs.Ytefekolpfklhdaa

noncomputable def m51 (x : (Int × (Int × (Int × ((List Int) × ((List Bool) × ((Int × (Int × Int)) × (List (Int × (List Int))))))))) × Unit) : Option (Bool × Unit) :=
  bif (decide (x.1.2.2.2.2.2.1.1 < (0 : Int))) then
    (bif (decide (x.1.2.2.2.2.2.1.1 = (-1 : Int))) then
      (bif (decide (x.1.2.2.2.2.2.1.2.1 = (0 : Int))) then
        (some ((decide (x.1.2.2.2.2.2.1.2.2 = (0 : Int))), ()))
      else
        (some (false, ())))
    else
      (some (false, ())))
  else
    (bif (decide (x.1.2.2.2.2.2.1.2.1 ≥ (0 : Int))) then
      (bif (decide (x.1.2.2.2.2.2.1.2.1 < x.1.2.1)) then
        (bif (decide (x.1.2.2.2.2.2.1.2.2 ≥ (0 : Int))) then
          (some ((decide (x.1.2.2.2.2.2.1.2.2 ≤ x.1.1)), ()))
        else
          (some (false, ())))
      else
        (some (false, ())))
    else
      (some (false, ())))

noncomputable def r51 : PDen [(true, (.pair (.int .i64) (.pair (.int .i64) (.pair (.int .i64) (.pair (.sl (.int .i64)) (.pair (.sl .bool) (.pair (.pair (.int .i64) (.pair (.int .i64) (.int .i64))) (.sl (.pair (.int .i64) (.sl (.int .i64)))))))))))] → Option (PDen [(false, .bool)]) := fun x => afun Try.prog (envOf [] [] [] []) ⟨[], []⟩ Try.f51 [(true, (.pair (.int .i64) (.pair (.int .i64) (.pair (.int .i64) (.pair (.sl (.int .i64)) (.pair (.sl .bool) (.pair (.pair (.int .i64) (.pair (.int .i64) (.int .i64))) (.sl (.pair (.int .i64) (.sl (.int .i64)))))))))))] [(false, .bool)] false x
theorem r51_eq : r51 = m51 := by kernel_rfl

theorem c51 : CS.Sound Try.prog 51 ⟨[(true, (.pair (.int .i64) (.pair (.int .i64) (.pair (.int .i64) (.pair (.sl (.int .i64)) (.pair (.sl .bool) (.pair (.pair (.int .i64) (.pair (.int .i64) (.int .i64))) (.sl (.pair (.int .i64) (.sl (.int .i64)))))))))))], [(false, .bool)], false, m51⟩ := afun_sound' (envOf_sound (CSs.nil) (HDs.nil) (IDs.nil)) rfl Try.follows (f := 51) (fn := Try.f51) Try.func51 (by kernel_rfl) (by kernel_rfl) r51_eq
end Go.Proofs.Ytefekolpfklhdaa
end

section
/- What function 52 (slipway/slipwayref05.logs) computes, by the kernel. -/
open Go Go.Proofs.AM
namespace Go.Proofs.Ytefekolpfklhdaa

noncomputable def m52 (x : (Int × (Int × (Int × ((List Int) × ((List Bool) × ((Int × (Int × Int)) × (List (Int × (List Int))))))))) × Unit) : Option (Bool × Unit) :=
  bif (decide ((((List.length x.1.2.2.2.2.2.2) : Nat) : Int) > x.1.2.2.1)) then
    (some (false, ()))
  else
    (gd ((0 : Int) ≤ (Go.IntKind.wrap .i64 (x.1.1 * x.1.2.1))) (gd ((Go.IntKind.wrap .i64 (x.1.1 * x.1.2.1)) ≤ (Go.IntKind.wrap .i64 (x.1.1 * x.1.2.1))) (gd (((Go.IntKind.wrap .i64 (x.1.1 * x.1.2.1)) * (1 : Int)) ≤ (140737488355328 : Int)) (Option.bind (loopM (X := (Int × (List Bool))) (E := ((List Bool) ⊕ (Bool × (List Bool)))) (fun (x1 : (Int × (List Bool))) =>
              bif (decide (x1.1 < (((List.length x.1.2.2.2.2.2.2) : Nat) : Int))) then
                (gd ((0 : Int) ≤ x1.1) (gd (x1.1 < (((List.length x.1.2.2.2.2.2.2) : Nat) : Int)) (bif (decide ((List.getD x.1.2.2.2.2.2.2 (Int.toNat x1.1) ((0 : Int), ([] : List Int))).1 < (0 : Int))) then
                      (some (Sum.inr (Sum.inr (false, x1.2))))
                    else
                      (bif (decide ((((List.length (List.getD x.1.2.2.2.2.2.2 (Int.toNat x1.1) ((0 : Int), ([] : List Int))).2) : Nat) : Int) > x.1.1)) then
                        (some (Sum.inr (Sum.inr (false, x1.2))))
                      else
                        (bif (decide (x1.1 < (Go.IntKind.wrap .i64 ((((List.length x.1.2.2.2.2.2.2) : Nat) : Int) - (1 : Int))))) then
                          (bif (!(decide ((((List.length (List.getD x.1.2.2.2.2.2.2 (Int.toNat x1.1) ((0 : Int), ([] : List Int))).2) : Nat) : Int) = x.1.1))) then
                            (some (Sum.inr (Sum.inr (false, x1.2))))
                          else
                            (Option.bind (loopM (X := (Int × (List Bool))) (E := ((List Bool) ⊕ (Bool × (List Bool)))) (fun (x2 : (Int × (List Bool))) =>
                                bif (decide (x2.1 < (((List.length (List.getD x.1.2.2.2.2.2.2 (Int.toNat x1.1) ((0 : Int), ([] : List Int))).2) : Nat) : Int))) then
                                  (gd ((0 : Int) ≤ x2.1) (gd (x2.1 < (((List.length (List.getD x.1.2.2.2.2.2.2 (Int.toNat x1.1) ((0 : Int), ([] : List Int))).2) : Nat) : Int)) (bif (decide ((List.getD (List.getD x.1.2.2.2.2.2.2 (Int.toNat x1.1) ((0 : Int), ([] : List Int))).2 (Int.toNat x2.1) (0 : Int)) < (-1 : Int))) then
                                        (some (Sum.inr (Sum.inr (false, x2.2))))
                                      else
                                        (bif (decide ((List.getD (List.getD x.1.2.2.2.2.2.2 (Int.toNat x1.1) ((0 : Int), ([] : List Int))).2 (Int.toNat x2.1) (0 : Int)) ≥ (Go.IntKind.wrap .i64 (x.1.1 * x.1.2.1)))) then
                                          (some (Sum.inr (Sum.inr (false, x2.2))))
                                        else
                                          (bif (decide ((List.getD (List.getD x.1.2.2.2.2.2.2 (Int.toNat x1.1) ((0 : Int), ([] : List Int))).2 (Int.toNat x2.1) (0 : Int)) ≥ (0 : Int))) then
                                            (gd ((0 : Int) ≤ (List.getD (List.getD x.1.2.2.2.2.2.2 (Int.toNat x1.1) ((0 : Int), ([] : List Int))).2 (Int.toNat x2.1) (0 : Int))) (gd ((List.getD (List.getD x.1.2.2.2.2.2.2 (Int.toNat x1.1) ((0 : Int), ([] : List Int))).2 (Int.toNat x2.1) (0 : Int)) < (((List.length x2.2) : Nat) : Int)) (gd ((Int.toNat (List.getD (List.getD x.1.2.2.2.2.2.2 (Int.toNat x1.1) ((0 : Int), ([] : List Int))).2 (Int.toNat x2.1) (0 : Int))) < (List.length x2.2)) (bif (List.getD x2.2 (Int.toNat (List.getD (List.getD x.1.2.2.2.2.2.2 (Int.toNat x1.1) ((0 : Int), ([] : List Int))).2 (Int.toNat x2.1) (0 : Int))) false) then
                                                    (some (Sum.inr (Sum.inr (false, x2.2))))
                                                  else
                                                    (bif (decide ((List.getD (List.getD x.1.2.2.2.2.2.2 (Int.toNat x1.1) ((0 : Int), ([] : List Int))).2 (Int.toNat x2.1) (0 : Int)) ≥ (0 : Int))) then
                                                      (gd ((0 : Int) ≤ (List.getD (List.getD x.1.2.2.2.2.2.2 (Int.toNat x1.1) ((0 : Int), ([] : List Int))).2 (Int.toNat x2.1) (0 : Int))) (gd ((List.getD (List.getD x.1.2.2.2.2.2.2 (Int.toNat x1.1) ((0 : Int), ([] : List Int))).2 (Int.toNat x2.1) (0 : Int)) < (((List.length x2.2) : Nat) : Int)) (gd ((Int.toNat (List.getD (List.getD x.1.2.2.2.2.2.2 (Int.toNat x1.1) ((0 : Int), ([] : List Int))).2 (Int.toNat x2.1) (0 : Int))) < (List.length x2.2)) (some (Sum.inl ((Go.IntKind.wrap .i64 (x2.1 + (1 : Int))), (List.set x2.2 (Int.toNat (List.getD (List.getD x.1.2.2.2.2.2.2 (Int.toNat x1.1) ((0 : Int), ([] : List Int))).2 (Int.toNat x2.1) (0 : Int))) true)))))))
                                                    else
                                                      (some (Sum.inl ((Go.IntKind.wrap .i64 (x2.1 + (1 : Int))), x2.2))))))))
                                          else
                                            (bif (decide ((List.getD (List.getD x.1.2.2.2.2.2.2 (Int.toNat x1.1) ((0 : Int), ([] : List Int))).2 (Int.toNat x2.1) (0 : Int)) ≥ (0 : Int))) then
                                              (gd ((0 : Int) ≤ (List.getD (List.getD x.1.2.2.2.2.2.2 (Int.toNat x1.1) ((0 : Int), ([] : List Int))).2 (Int.toNat x2.1) (0 : Int))) (gd ((List.getD (List.getD x.1.2.2.2.2.2.2 (Int.toNat x1.1) ((0 : Int), ([] : List Int))).2 (Int.toNat x2.1) (0 : Int)) < (((List.length x2.2) : Nat) : Int)) (gd ((Int.toNat (List.getD (List.getD x.1.2.2.2.2.2.2 (Int.toNat x1.1) ((0 : Int), ([] : List Int))).2 (Int.toNat x2.1) (0 : Int))) < (List.length x2.2)) (some (Sum.inl ((Go.IntKind.wrap .i64 (x2.1 + (1 : Int))), (List.set x2.2 (Int.toNat (List.getD (List.getD x.1.2.2.2.2.2.2 (Int.toNat x1.1) ((0 : Int), ([] : List Int))).2 (Int.toNat x2.1) (0 : Int))) true)))))))
                                            else
                                              (some (Sum.inl ((Go.IntKind.wrap .i64 (x2.1 + (1 : Int))), x2.2)))))))))
                                else
                                  (some (Sum.inr (Sum.inl x2.2)))) ((0 : Int), x1.2)) fun (y2 : ((List Bool) ⊕ (Bool × (List Bool)))) =>
                            Sum.elim (fun y3 =>
                              some (Sum.inl ((Go.IntKind.wrap .i64 (x1.1 + (1 : Int))), y3))) (fun y3 =>
                              some (Sum.inr (Sum.inr (y3.1, y3.2)))) y2))
                        else
                          (Option.bind (loopM (X := (Int × (List Bool))) (E := ((List Bool) ⊕ (Bool × (List Bool)))) (fun (x2 : (Int × (List Bool))) =>
                              bif (decide (x2.1 < (((List.length (List.getD x.1.2.2.2.2.2.2 (Int.toNat x1.1) ((0 : Int), ([] : List Int))).2) : Nat) : Int))) then
                                (gd ((0 : Int) ≤ x2.1) (gd (x2.1 < (((List.length (List.getD x.1.2.2.2.2.2.2 (Int.toNat x1.1) ((0 : Int), ([] : List Int))).2) : Nat) : Int)) (bif (decide ((List.getD (List.getD x.1.2.2.2.2.2.2 (Int.toNat x1.1) ((0 : Int), ([] : List Int))).2 (Int.toNat x2.1) (0 : Int)) < (-1 : Int))) then
                                      (some (Sum.inr (Sum.inr (false, x2.2))))
                                    else
                                      (bif (decide ((List.getD (List.getD x.1.2.2.2.2.2.2 (Int.toNat x1.1) ((0 : Int), ([] : List Int))).2 (Int.toNat x2.1) (0 : Int)) ≥ (Go.IntKind.wrap .i64 (x.1.1 * x.1.2.1)))) then
                                        (some (Sum.inr (Sum.inr (false, x2.2))))
                                      else
                                        (bif (decide ((List.getD (List.getD x.1.2.2.2.2.2.2 (Int.toNat x1.1) ((0 : Int), ([] : List Int))).2 (Int.toNat x2.1) (0 : Int)) ≥ (0 : Int))) then
                                          (gd ((0 : Int) ≤ (List.getD (List.getD x.1.2.2.2.2.2.2 (Int.toNat x1.1) ((0 : Int), ([] : List Int))).2 (Int.toNat x2.1) (0 : Int))) (gd ((List.getD (List.getD x.1.2.2.2.2.2.2 (Int.toNat x1.1) ((0 : Int), ([] : List Int))).2 (Int.toNat x2.1) (0 : Int)) < (((List.length x2.2) : Nat) : Int)) (gd ((Int.toNat (List.getD (List.getD x.1.2.2.2.2.2.2 (Int.toNat x1.1) ((0 : Int), ([] : List Int))).2 (Int.toNat x2.1) (0 : Int))) < (List.length x2.2)) (bif (List.getD x2.2 (Int.toNat (List.getD (List.getD x.1.2.2.2.2.2.2 (Int.toNat x1.1) ((0 : Int), ([] : List Int))).2 (Int.toNat x2.1) (0 : Int))) false) then
                                                  (some (Sum.inr (Sum.inr (false, x2.2))))
                                                else
                                                  (bif (decide ((List.getD (List.getD x.1.2.2.2.2.2.2 (Int.toNat x1.1) ((0 : Int), ([] : List Int))).2 (Int.toNat x2.1) (0 : Int)) ≥ (0 : Int))) then
                                                    (gd ((0 : Int) ≤ (List.getD (List.getD x.1.2.2.2.2.2.2 (Int.toNat x1.1) ((0 : Int), ([] : List Int))).2 (Int.toNat x2.1) (0 : Int))) (gd ((List.getD (List.getD x.1.2.2.2.2.2.2 (Int.toNat x1.1) ((0 : Int), ([] : List Int))).2 (Int.toNat x2.1) (0 : Int)) < (((List.length x2.2) : Nat) : Int)) (gd ((Int.toNat (List.getD (List.getD x.1.2.2.2.2.2.2 (Int.toNat x1.1) ((0 : Int), ([] : List Int))).2 (Int.toNat x2.1) (0 : Int))) < (List.length x2.2)) (some (Sum.inl ((Go.IntKind.wrap .i64 (x2.1 + (1 : Int))), (List.set x2.2 (Int.toNat (List.getD (List.getD x.1.2.2.2.2.2.2 (Int.toNat x1.1) ((0 : Int), ([] : List Int))).2 (Int.toNat x2.1) (0 : Int))) true)))))))
                                                  else
                                                    (some (Sum.inl ((Go.IntKind.wrap .i64 (x2.1 + (1 : Int))), x2.2))))))))
                                        else
                                          (bif (decide ((List.getD (List.getD x.1.2.2.2.2.2.2 (Int.toNat x1.1) ((0 : Int), ([] : List Int))).2 (Int.toNat x2.1) (0 : Int)) ≥ (0 : Int))) then
                                            (gd ((0 : Int) ≤ (List.getD (List.getD x.1.2.2.2.2.2.2 (Int.toNat x1.1) ((0 : Int), ([] : List Int))).2 (Int.toNat x2.1) (0 : Int))) (gd ((List.getD (List.getD x.1.2.2.2.2.2.2 (Int.toNat x1.1) ((0 : Int), ([] : List Int))).2 (Int.toNat x2.1) (0 : Int)) < (((List.length x2.2) : Nat) : Int)) (gd ((Int.toNat (List.getD (List.getD x.1.2.2.2.2.2.2 (Int.toNat x1.1) ((0 : Int), ([] : List Int))).2 (Int.toNat x2.1) (0 : Int))) < (List.length x2.2)) (some (Sum.inl ((Go.IntKind.wrap .i64 (x2.1 + (1 : Int))), (List.set x2.2 (Int.toNat (List.getD (List.getD x.1.2.2.2.2.2.2 (Int.toNat x1.1) ((0 : Int), ([] : List Int))).2 (Int.toNat x2.1) (0 : Int))) true)))))))
                                          else
                                            (some (Sum.inl ((Go.IntKind.wrap .i64 (x2.1 + (1 : Int))), x2.2)))))))))
                              else
                                (some (Sum.inr (Sum.inl x2.2)))) ((0 : Int), x1.2)) fun (y2 : ((List Bool) ⊕ (Bool × (List Bool)))) =>
                          Sum.elim (fun y3 =>
                            some (Sum.inl ((Go.IntKind.wrap .i64 (x1.1 + (1 : Int))), y3))) (fun y3 =>
                            some (Sum.inr (Sum.inr (y3.1, y3.2)))) y2))))))
              else
                (some (Sum.inr (Sum.inl x1.2)))) ((0 : Int), (List.replicate (Int.toNat (Go.IntKind.wrap .i64 (x.1.1 * x.1.2.1))) false))) fun (y1 : ((List Bool) ⊕ (Bool × (List Bool)))) =>
          Sum.elim (fun y2 =>
            some (true, ())) (fun y2 =>
            some (y2.1, ())) y1))))

noncomputable def r52 : PDen [(true, (.pair (.int .i64) (.pair (.int .i64) (.pair (.int .i64) (.pair (.sl (.int .i64)) (.pair (.sl .bool) (.pair (.pair (.int .i64) (.pair (.int .i64) (.int .i64))) (.sl (.pair (.int .i64) (.sl (.int .i64)))))))))))] → Option (PDen [(false, .bool)]) := fun x => afun Try.prog (envOf [] [] [] []) ⟨[(0, ⟨[.slot 4 (.d false (.int .i64) true), .vec 1 4 .bool true], [], [(some 0, [.vec 1 4 .bool true]), (none, [.slot 2 (.d false .bool true), .vec 1 4 .bool true])], none⟩), (2, ⟨[.slot 6 (.d false (.int .i64) true), .vec 1 4 .bool true], [], [(some 2, [.vec 1 4 .bool true]), (none, [.slot 2 (.d false .bool true), .vec 1 4 .bool true])], none⟩)], []⟩ Try.f52 [(true, (.pair (.int .i64) (.pair (.int .i64) (.pair (.int .i64) (.pair (.sl (.int .i64)) (.pair (.sl .bool) (.pair (.pair (.int .i64) (.pair (.int .i64) (.int .i64))) (.sl (.pair (.int .i64) (.sl (.int .i64)))))))))))] [(false, .bool)] false x
theorem r52_eq : r52 = m52 := by kernel_rfl

theorem c52 : CS.Sound Try.prog 52 ⟨[(true, (.pair (.int .i64) (.pair (.int .i64) (.pair (.int .i64) (.pair (.sl (.int .i64)) (.pair (.sl .bool) (.pair (.pair (.int .i64) (.pair (.int .i64) (.int .i64))) (.sl (.pair (.int .i64) (.sl (.int .i64)))))))))))], [(false, .bool)], false, m52⟩ := afun_sound' (envOf_sound (CSs.nil) (HDs.nil) (IDs.nil)) rfl Try.follows (f := 52) (fn := Try.f52) Try.func52 (by kernel_rfl) (by kernel_rfl) r52_eq
end Go.Proofs.Ytefekolpfklhdaa
end

section
/- What function 53 (slipway/slipwayref05.list) computes, by the kernel. -/
open Go Go.Proofs.AM
namespace Go.Proofs.Ytefekolpfklhdaa

noncomputable def m53 (x : (Int × (Int × (Int × ((List Int) × ((List Bool) × ((Int × (Int × Int)) × (List (Int × (List Int))))))))) × Unit) : Option ((List Int) × Unit) :=
  Option.bind (loopM (X := ((List Int) × Int)) (E := (List Int)) (fun (x1 : ((List Int) × Int)) =>
      bif (decide (x1.2 < (((List.length x.1.2.2.2.1) : Nat) : Int))) then
        (gd ((0 : Int) ≤ x1.2) (gd (x1.2 < (((List.length x.1.2.2.2.1) : Nat) : Int)) (bif (decide ((List.getD x.1.2.2.2.1 (Int.toNat x1.2) (0 : Int)) ≥ (0 : Int))) then
              (gd ((0 : Int) ≤ x1.2) (gd (x1.2 < (((List.length x.1.2.2.2.1) : Nat) : Int)) (gd ((((List.length x1.1) + (List.length ((List.getD x.1.2.2.2.1 (Int.toNat x1.2) (0 : Int)) :: ([] : List Int)))) * 8) ≤ 140737488355328) (gd (((List.length x1.1) + (List.length ((List.getD x.1.2.2.2.1 (Int.toNat x1.2) (0 : Int)) :: ([] : List Int)))) ≤ 140737488355328) (some (Sum.inl ((x1.1 ++ ((List.getD x.1.2.2.2.1 (Int.toNat x1.2) (0 : Int)) :: ([] : List Int))), (Go.IntKind.wrap .i64 (x1.2 + (1 : Int))))))))))
            else
              (some (Sum.inl (x1.1, (Go.IntKind.wrap .i64 (x1.2 + (1 : Int)))))))))
      else
        (some (Sum.inr x1.1))) (([] : List Int), (0 : Int))) fun (y1 : (List Int)) =>
  bif (decide (x.1.2.2.2.2.2.1.1 ≥ (0 : Int))) then
    (gd ((((List.length y1) + (List.length (x.1.2.2.2.2.2.1.1 :: ([] : List Int)))) * 8) ≤ 140737488355328) (gd (((List.length y1) + (List.length (x.1.2.2.2.2.2.1.1 :: ([] : List Int)))) ≤ 140737488355328) (Option.bind (loopM (X := ((List Int) × Int)) (E := (List Int)) (fun (x2 : ((List Int) × Int)) =>
            bif (decide (x2.2 < (((List.length x.1.2.2.2.2.2.2) : Nat) : Int))) then
              (gd ((0 : Int) ≤ x2.2) (gd (x2.2 < (((List.length x.1.2.2.2.2.2.2) : Nat) : Int)) (gd ((((List.length x2.1) + (List.length ((List.getD x.1.2.2.2.2.2.2 (Int.toNat x2.2) ((0 : Int), ([] : List Int))).1 :: ([] : List Int)))) * 8) ≤ 140737488355328) (gd (((List.length x2.1) + (List.length ((List.getD x.1.2.2.2.2.2.2 (Int.toNat x2.2) ((0 : Int), ([] : List Int))).1 :: ([] : List Int)))) ≤ 140737488355328) (some (Sum.inl ((x2.1 ++ ((List.getD x.1.2.2.2.2.2.2 (Int.toNat x2.2) ((0 : Int), ([] : List Int))).1 :: ([] : List Int))), (Go.IntKind.wrap .i64 (x2.2 + (1 : Int))))))))))
            else
              (some (Sum.inr x2.1))) ((y1 ++ (x.1.2.2.2.2.2.1.1 :: ([] : List Int))), (0 : Int))) fun (y2 : (List Int)) =>
        some (y2, ()))))
  else
    (Option.bind (loopM (X := ((List Int) × Int)) (E := (List Int)) (fun (x2 : ((List Int) × Int)) =>
        bif (decide (x2.2 < (((List.length x.1.2.2.2.2.2.2) : Nat) : Int))) then
          (gd ((0 : Int) ≤ x2.2) (gd (x2.2 < (((List.length x.1.2.2.2.2.2.2) : Nat) : Int)) (gd ((((List.length x2.1) + (List.length ((List.getD x.1.2.2.2.2.2.2 (Int.toNat x2.2) ((0 : Int), ([] : List Int))).1 :: ([] : List Int)))) * 8) ≤ 140737488355328) (gd (((List.length x2.1) + (List.length ((List.getD x.1.2.2.2.2.2.2 (Int.toNat x2.2) ((0 : Int), ([] : List Int))).1 :: ([] : List Int)))) ≤ 140737488355328) (some (Sum.inl ((x2.1 ++ ((List.getD x.1.2.2.2.2.2.2 (Int.toNat x2.2) ((0 : Int), ([] : List Int))).1 :: ([] : List Int))), (Go.IntKind.wrap .i64 (x2.2 + (1 : Int))))))))))
        else
          (some (Sum.inr x2.1))) (y1, (0 : Int))) fun (y2 : (List Int)) =>
    some (y2, ()))

noncomputable def r53 : PDen [(true, (.pair (.int .i64) (.pair (.int .i64) (.pair (.int .i64) (.pair (.sl (.int .i64)) (.pair (.sl .bool) (.pair (.pair (.int .i64) (.pair (.int .i64) (.int .i64))) (.sl (.pair (.int .i64) (.sl (.int .i64)))))))))))] → Option (PDen [(false, (.sl (.int .i64)))]) := fun x => afun Try.prog (envOf [] [] [] []) ⟨[(2000, ⟨[.slot 3 (.v 3 (.int .i64) true), .slot 4 (.d false (.int .i64) true)], [], [(some 0, [.slot 3 (.v 3 (.int .i64) true)])], none⟩), (3002, ⟨[.slot 3 (.v 3 (.int .i64) true), .slot 5 (.d false (.int .i64) true)], [1], [(some 2, [.slot 3 (.v 3 (.int .i64) true)])], none⟩), (5002, ⟨[.slot 3 (.v 3 (.int .i64) true), .slot 5 (.d false (.int .i64) true)], [3], [(some 2, [.slot 3 (.v 3 (.int .i64) true)])], none⟩)], []⟩ Try.f53 [(true, (.pair (.int .i64) (.pair (.int .i64) (.pair (.int .i64) (.pair (.sl (.int .i64)) (.pair (.sl .bool) (.pair (.pair (.int .i64) (.pair (.int .i64) (.int .i64))) (.sl (.pair (.int .i64) (.sl (.int .i64)))))))))))] [(false, (.sl (.int .i64)))] false x
theorem r53_eq : r53 = m53 := by kernel_rfl

theorem c53 : CS.Sound Try.prog 53 ⟨[(true, (.pair (.int .i64) (.pair (.int .i64) (.pair (.int .i64) (.pair (.sl (.int .i64)) (.pair (.sl .bool) (.pair (.pair (.int .i64) (.pair (.int .i64) (.int .i64))) (.sl (.pair (.int .i64) (.sl (.int .i64)))))))))))], [(false, (.sl (.int .i64)))], false, m53⟩ := afun_sound' (envOf_sound (CSs.nil) (HDs.nil) (IDs.nil)) rfl Try.follows (f := 53) (fn := Try.f53) Try.func53 (by kernel_rfl) (by kernel_rfl) r53_eq
end Go.Proofs.Ytefekolpfklhdaa
end

section
/- What function 23 (slipway/slipwayref05.Check) computes, by the kernel. -/
open Go Go.Proofs.AM
namespace Go.Proofs.Ytefekolpfklhdaa

noncomputable def m23 (x : (Int × (Int × (Int × ((List Int) × ((List Bool) × ((Int × (Int × Int)) × (List (Int × (List Int))))))))) × Unit) : Option (Int × Unit) :=
  Option.bind (m43 (x.1.1, (x.1.2.1, (x.1.2.2.1, ())))) fun (y1 : ((Int × (Int × (Int × ((List Int) × ((List Bool) × ((Int × (Int × Int)) × (List (Int × (List Int))))))))) × (Int × Unit))) =>
  bif (!(decide (y1.2.1 = (0 : Int)))) then
    (some ((50 : Int), ()))
  else
    (bif (!(decide ((((List.length x.1.2.2.2.1) : Nat) : Int) = x.1.2.1))) then
      (some ((50 : Int), ()))
    else
      (bif (!(decide ((((List.length x.1.2.2.2.2.1) : Nat) : Int) = (Go.IntKind.wrap .i64 (x.1.2.1 * x.1.1))))) then
        (some ((50 : Int), ()))
      else
        (Option.bind (loopM (X := Int) (E := (Unit ⊕ Int)) (fun (x2 : Int) =>
            bif (decide (x2 < (((List.length x.1.2.2.2.1) : Nat) : Int))) then
              (gd ((0 : Int) ≤ x2) (gd (x2 < (((List.length x.1.2.2.2.1) : Nat) : Int)) (bif (decide ((List.getD x.1.2.2.2.1 (Int.toNat x2) (0 : Int)) < (-1 : Int))) then
                    (some (Sum.inr (Sum.inr (50 : Int))))
                  else
                    (some (Sum.inl (Go.IntKind.wrap .i64 (x2 + (1 : Int))))))))
            else
              (some (Sum.inr (Sum.inl ())))) (0 : Int)) fun (y2 : (Unit ⊕ Int)) =>
        Sum.elim (fun y3 =>
          Option.bind (loopM (X := Int) (E := (Unit ⊕ Int)) (fun (x4 : Int) =>
              bif (decide (x4 < (((List.length x.1.2.2.2.2.1) : Nat) : Int))) then
                (gd ((0 : Int) ≤ x4) (gd (x4 < (((List.length x.1.2.2.2.2.1) : Nat) : Int)) (bif (List.getD x.1.2.2.2.2.1 (Int.toNat x4) false) then
                      (if x.1.1 = (0 : Int) then
                        (none)
                      else
                        (gd ((0 : Int) ≤ (Go.IntKind.wrap .i64 (Int.tdiv x4 x.1.1))) (gd ((Go.IntKind.wrap .i64 (Int.tdiv x4 x.1.1)) < (((List.length x.1.2.2.2.1) : Nat) : Int)) (bif (decide ((List.getD x.1.2.2.2.1 (Int.toNat (Go.IntKind.wrap .i64 (Int.tdiv x4 x.1.1))) (0 : Int)) < (0 : Int))) then
                              (some (Sum.inr (Sum.inr (50 : Int))))
                            else
                              (some (Sum.inl (Go.IntKind.wrap .i64 (x4 + (1 : Int)))))))))
                    else
                      (some (Sum.inl (Go.IntKind.wrap .i64 (x4 + (1 : Int))))))))
              else
                (some (Sum.inr (Sum.inl ())))) (0 : Int)) fun (y4 : (Unit ⊕ Int)) =>
          Sum.elim (fun y5 =>
            Option.bind (m51 (x.1, ())) fun (y6 : (Bool × Unit)) =>
            bif (!y6.1) then
              (some ((50 : Int), ()))
            else
              (Option.bind (m52 (x.1, ())) fun (y7 : (Bool × Unit)) =>
              bif (!y7.1) then
                (some ((50 : Int), ()))
              else
                (gd (((256 : Int) * (1 : Int)) ≤ (140737488355328 : Int)) (Option.bind (m53 (x.1, ())) fun (y8 : ((List Int) × Unit)) =>
                  Option.bind (loopM (X := (Int × (List Bool))) (E := ((List Bool) ⊕ (Int × (List Bool)))) (fun (x9 : (Int × (List Bool))) =>
                      bif (decide (x9.1 < (((List.length y8.1) : Nat) : Int))) then
                        (gd ((0 : Int) ≤ x9.1) (gd (x9.1 < (((List.length y8.1) : Nat) : Int)) (bif (decide ((List.getD y8.1 (Int.toNat x9.1) (0 : Int)) ≥ (256 : Int))) then
                              (some (Sum.inr (Sum.inr ((50 : Int), x9.2))))
                            else
                              (gd ((0 : Int) ≤ x9.1) (gd (x9.1 < (((List.length y8.1) : Nat) : Int)) (gd ((0 : Int) ≤ (List.getD y8.1 (Int.toNat x9.1) (0 : Int))) (gd ((List.getD y8.1 (Int.toNat x9.1) (0 : Int)) < (((List.length x9.2) : Nat) : Int)) (gd ((Int.toNat (List.getD y8.1 (Int.toNat x9.1) (0 : Int))) < (List.length x9.2)) (bif (List.getD x9.2 (Int.toNat (List.getD y8.1 (Int.toNat x9.1) (0 : Int))) false) then
                                          (some (Sum.inr (Sum.inr ((50 : Int), x9.2))))
                                        else
                                          (gd ((0 : Int) ≤ x9.1) (gd (x9.1 < (((List.length y8.1) : Nat) : Int)) (gd ((0 : Int) ≤ (List.getD y8.1 (Int.toNat x9.1) (0 : Int))) (gd ((List.getD y8.1 (Int.toNat x9.1) (0 : Int)) < (((List.length x9.2) : Nat) : Int)) (gd ((Int.toNat (List.getD y8.1 (Int.toNat x9.1) (0 : Int))) < (List.length x9.2)) (some (Sum.inl ((Go.IntKind.wrap .i64 (x9.1 + (1 : Int))), (List.set x9.2 (Int.toNat (List.getD y8.1 (Int.toNat x9.1) (0 : Int))) true))))))))))))))))))
                      else
                        (some (Sum.inr (Sum.inl x9.2)))) ((0 : Int), (List.replicate (Int.toNat (256 : Int)) false))) fun (y9 : ((List Bool) ⊕ (Int × (List Bool)))) =>
                  Sum.elim (fun y10 =>
                    some ((0 : Int), ())) (fun y10 =>
                    some (y10.1, ())) y9)))) (fun y5 =>
            some (y5, ())) y4) (fun y3 =>
          some (y3, ())) y2)))

noncomputable def r23 : PDen [(true, (.pair (.int .i64) (.pair (.int .i64) (.pair (.int .i64) (.pair (.sl (.int .i64)) (.pair (.sl .bool) (.pair (.pair (.int .i64) (.pair (.int .i64) (.int .i64))) (.sl (.pair (.int .i64) (.sl (.int .i64)))))))))))] → Option (PDen [(false, (.int .i64))]) := fun x => afun Try.prog (envOf [(51, ⟨[(true, (.pair (.int .i64) (.pair (.int .i64) (.pair (.int .i64) (.pair (.sl (.int .i64)) (.pair (.sl .bool) (.pair (.pair (.int .i64) (.pair (.int .i64) (.int .i64))) (.sl (.pair (.int .i64) (.sl (.int .i64)))))))))))], [(false, .bool)], false, m51⟩), (52, ⟨[(true, (.pair (.int .i64) (.pair (.int .i64) (.pair (.int .i64) (.pair (.sl (.int .i64)) (.pair (.sl .bool) (.pair (.pair (.int .i64) (.pair (.int .i64) (.int .i64))) (.sl (.pair (.int .i64) (.sl (.int .i64)))))))))))], [(false, .bool)], false, m52⟩), (53, ⟨[(true, (.pair (.int .i64) (.pair (.int .i64) (.pair (.int .i64) (.pair (.sl (.int .i64)) (.pair (.sl .bool) (.pair (.pair (.int .i64) (.pair (.int .i64) (.int .i64))) (.sl (.pair (.int .i64) (.sl (.int .i64)))))))))))], [(false, (.sl (.int .i64)))], false, m53⟩)] [(43, OM.hd ⟨[(false, (.int .i64)), (false, (.int .i64)), (false, (.int .i64))], [(true, (.pair (.int .i64) (.pair (.int .i64) (.pair (.int .i64) (.pair (.sl (.int .i64)) (.pair (.sl .bool) (.pair (.pair (.int .i64) (.pair (.int .i64) (.int .i64))) (.sl (.pair (.int .i64) (.sl (.int .i64))))))))))), (false, (.int .i64))], [(.p .d (.p .d (.p .d (.p (.s 3) (.p (.s 4) .d))))), .d], true, m43⟩)] [] []) ⟨[(0, ⟨[.slot 5 (.d false (.int .i64) true)], [], [(some 0, []), (none, [.slot 2 (.d false (.int .i64) true)])], none⟩), (2, ⟨[.slot 6 (.d false (.int .i64) true)], [], [(some 2, []), (none, [.slot 2 (.d false (.int .i64) true)])], none⟩), (4, ⟨[.slot 9 (.d false (.int .i64) true), .vec 4 4 .bool true], [], [(some 4, [.vec 4 4 .bool true]), (none, [.slot 2 (.d false (.int .i64) true), .vec 4 4 .bool true])], none⟩)], []⟩ Try.f23 [(true, (.pair (.int .i64) (.pair (.int .i64) (.pair (.int .i64) (.pair (.sl (.int .i64)) (.pair (.sl .bool) (.pair (.pair (.int .i64) (.pair (.int .i64) (.int .i64))) (.sl (.pair (.int .i64) (.sl (.int .i64)))))))))))] [(false, (.int .i64))] false x
theorem r23_eq : r23 = m23 := by kernel_rfl

theorem c23 : CS.Sound Try.prog 23 ⟨[(true, (.pair (.int .i64) (.pair (.int .i64) (.pair (.int .i64) (.pair (.sl (.int .i64)) (.pair (.sl .bool) (.pair (.pair (.int .i64) (.pair (.int .i64) (.int .i64))) (.sl (.pair (.int .i64) (.sl (.int .i64)))))))))))], [(false, (.int .i64))], false, m23⟩ := afun_sound' (envOf_sound (CSs.cons c51 (CSs.cons c52 (CSs.cons c53 (CSs.nil)))) (HDs.cons (OM.Sound.hd c43) (HDs.nil)) (IDs.nil)) rfl Try.follows (f := 23) (fn := Try.f23) Try.func23 (by kernel_rfl) (by kernel_rfl) r23_eq
end Go.Proofs.Ytefekolpfklhdaa
end

section
/- What a table is checked for, with no program in sight. -/
namespace Go.Proofs.Ytefekolpfklhdaa
open Go Go.Proofs.AM

abbrev Tab := Int × (Int × (Int × (List Int × (List Bool × ((Int × (Int × Int)) × List (Int × List Int))))))

def shape (P L K : Int) : Prop := 4 ≤ P ∧ P ≤ 32 ∧ 1 ≤ L ∧ L ≤ 256 ∧ 1 ≤ K ∧ K ≤ 8

theorem shape_mul {P L K : Int} (h : shape P L K) : 0 < P * L ∧ P * L ≤ 8192 ∧ L * P = P * L := by
  obtain ⟨h1, h2, h3, h4, _⟩ := h
  have := Int.mul_le_mul (a := P) (b := L) (c := 32) (d := 256) (by omega) (by omega) (by omega) (by omega)
  exact ⟨Int.mul_pos (by omega) (by omega), by omega, Int.mul_comm _ _⟩

theorem m43_shape (P L K : Int) : Ok (m43 (P, (L, (K, ())))) (fun r => r.2.1 = 0 → shape P L K) := by
  unfold m43
  refine Ok.cond (fun _ => Ok.some (fun h => by simp at h)) (fun h1 => ?_)
  refine Ok.cond (fun _ => Ok.some (fun h => by simp at h)) (fun h2 => ?_)
  refine Ok.cond (fun _ => Ok.some (fun h => by simp at h)) (fun h3 => ?_)
  refine Ok.cond (fun _ => Ok.some (fun h => by simp at h)) (fun h4 => ?_)
  refine Ok.cond (fun _ => Ok.some (fun h => by simp at h)) (fun h5 => ?_)
  refine Ok.cond (fun _ => Ok.some (fun h => by simp at h)) (fun h6 => ?_)
  simp only at h1 h2 h3 h4 h5 h6
  have hs : shape P L K := ⟨by omega, by omega, by omega, by omega, by omega, by omega⟩
  have hm := shape_mul hs
  obtain ⟨N, rfl⟩ : ∃ N : Nat, L = N := ⟨L.toNat, by omega⟩
  refine Ok.bind (S := fun _ => True) (Ok.loop N (fun i x => x.1 = (i : Int) ∧ x.2.2.2.2.1.length = i) ⟨rfl, rfl⟩ ?_) fun y _ => ?_
  · rintro i ⟨x1, x2, x3, x4, x5, x6⟩ hi ⟨hx, hl⟩
    simp only at hx hl
    subst hx
    refine Ok.cond (fun hc => ?_) (fun _ => Ok.inr trivial)
    simp only at hc
    refine Ok.gd (by simp; omega) (Ok.gd (by simp; omega) (Ok.inl ⟨by omega, ?_, ?_⟩))
    · simp only; rw [wrap64 (by omega) (by omega)]; simp
    · simp [hl]
  · simp only
    rw [wrap64 (by omega) (by omega)]
    exact Ok.gd (by omega) (Ok.gd (by omega) (Ok.gd (by omega) (Ok.some fun _ => hs)))

theorem m51_ok (t : Tab) : Ok (m51 (t, ())) (fun r => r.1 = true → t.2.2.2.2.2.1.1 < 0 → t.2.2.2.2.2.1 = (-1, (0, 0))) := by
  obtain ⟨P, L, K, D, H, ⟨s1, s2, s3⟩, G⟩ := t
  unfold m51
  refine Ok.cond (fun _ => ?_) (fun h => ?_)
  · refine Ok.cond (fun h1 => ?_) (fun _ => Ok.some (fun h => by simp at h))
    refine Ok.cond (fun h2 => Ok.some fun h3 _ => ?_) (fun _ => Ok.some (fun h => by simp at h))
    simp only [decide_eq_true_eq] at h1 h2 h3
    simp [h1, h2, h3]
  · simp only at h
    refine Ok.cond (fun _ => ?_) (fun _ => Ok.some (fun _ h' => absurd h' h))
    refine Ok.cond (fun _ => ?_) (fun _ => Ok.some (fun _ h' => absurd h' h))
    exact Ok.cond (fun _ => Ok.some (fun _ h' => absurd h' h)) (fun _ => Ok.some (fun _ h' => absurd h' h))

theorem set_len {A : Type} {l : List A} {n i : Nat} {x : A} (h : l.length = n) : (l.set i x).length = n := by simp [h]

theorem m52_ok (P L K : Int) (D : List Int) (H : List Bool) (S : Int × (Int × Int)) (G : List (Int × List Int)) (hs : shape P L K) :
    Ok (m52 ((P, (L, (K, (D, (H, (S, G)))))), ())) (fun r => r.1 = true → (G.length : Int) ≤ K ∧ ∀ i, i < G.length → 0 ≤ (G.getD i (0, [])).1) := by
  have hm := shape_mul hs
  unfold m52
  refine Ok.cond (fun _ => Ok.some (fun h => by simp at h)) (fun h1 => ?_)
  simp only at h1 ⊢
  have hK := hs.2.2.2.2.2
  rw [wrap64 (n := P * L) (by omega) (by omega)]
  refine Ok.gd (by omega) (Ok.gd (by omega) (Ok.gd (by omega) ?_))
  -- the pages of a log
  have inner : ∀ (i : Nat) (seen : List Bool), seen.length = (P * L).toNat → ((G.getD i (0, [])).2.length : Int) ≤ P → ∀ f : Int × List Bool → Option ((Int × List Bool) ⊕ (List Bool ⊕ (Bool × List Bool))),
      (∀ (j : Nat) (s : List Bool), s.length = (P * L).toNat → j ≤ (G.getD i (0, [])).2.length → Ok (f ((j : Int), s)) (fun s => s.elim (fun y => j < (G.getD i (0, [])).2.length ∧ (y.1 = ((j + 1 : Nat) : Int) ∧ y.2.length = (P * L).toNat)) (fun e => match e with | .inl v => v.length = (P * L).toNat | .inr v => v.1 = false))) →
      Ok (loopM f ((0 : Int), seen)) (fun e => match e with | .inl v => v.length = (P * L).toNat | .inr v => v.1 = false) := by
    intro i seen hl _ f hf
    refine Ok.loop (G.getD i (0, [])).2.length (fun j x => x.1 = (j : Int) ∧ x.2.length = (P * L).toNat) ⟨rfl, hl⟩ ?_
    rintro j ⟨x1, x2⟩ hj ⟨hx, hl2⟩
    simp only at hx hl2
    subst hx
    exact hf j x2 hl2 hj
  refine Ok.bind (S := fun e => match e with | .inl _ => ∀ i, i < G.length → 0 ≤ (G.getD i (0, [])).1 | .inr v => v.1 = false) (Ok.loop G.length (fun i x => x.1 = (i : Int) ∧ x.2.length = (P * L).toNat ∧ ∀ k, k < i → 0 ≤ (G.getD k (0, [])).1) ⟨rfl, by simp, fun k hk => by omega⟩ ?_) fun y hy => ?_
  · rintro i ⟨x1, x2⟩ hi ⟨hx, hl, hg⟩
    simp only at hx hl
    subst hx
    refine Ok.cond (fun hc => ?_) (fun hc => Ok.inr (fun k hk => hg k (by simp only at hc; omega)))
    simp only [Int.toNat_natCast] at hc ⊢
    refine Ok.gd (by omega) (Ok.gd (by omega) ?_)
    refine Ok.cond (fun _ => Ok.inr rfl) (fun h2 => ?_)
    refine Ok.cond (fun _ => Ok.inr rfl) (fun h3 => ?_)
    rw [wrap64 (n := (i : Int) + 1) (by omega) (by omega)]
    have key : ∀ f : Int × List Bool → Option ((Int × List Bool) ⊕ (List Bool ⊕ (Bool × List Bool))),
        (∀ (j : Nat) (s : List Bool), s.length = (P * L).toNat → j ≤ (G.getD i (0, [])).2.length → Ok (f ((j : Int), s)) (fun s => s.elim (fun y => j < (G.getD i (0, [])).2.length ∧ (y.1 = ((j + 1 : Nat) : Int) ∧ y.2.length = (P * L).toNat)) (fun e => match e with | .inl v => v.length = (P * L).toNat | .inr v => v.1 = false))) →
        Ok (Option.bind (loopM f ((0 : Int), x2)) fun (y2 : ((List Bool) ⊕ (Bool × (List Bool)))) =>
          Sum.elim (fun y3 => some (Sum.inl (((i : Int) + 1), y3))) (fun y3 => some (Sum.inr (Sum.inr (y3.1, y3.2)))) y2)
          (fun s => s.elim (fun y => i < G.length ∧ (y.1 = ((i + 1 : Nat) : Int) ∧ y.2.length = (P * L).toNat ∧ ∀ k, k < i + 1 → 0 ≤ (G.getD k (0, [])).1)) (fun e : List Bool ⊕ (Bool × List Bool) => match e with | .inl _ => ∀ i, i < G.length → 0 ≤ (G.getD i (0, [])).1 | .inr v => v.1 = false)) := by
      intro f hf
      refine Ok.bind (inner i x2 hl (by omega) f hf) fun y hy => ?_
      refine Ok.elim (fun v e => ?_) (fun v e => ?_)
      · subst e
        refine Ok.inl ⟨by omega, by simp, hy, fun k hk => ?_⟩
        by_cases e : k = i
        · subst e; omega
        · exact hg k (by omega)
      · subst e
        exact Ok.inr hy
    have body : ∀ (j : Nat) (s : List Bool), s.length = (P * L).toNat → j ≤ (G.getD i (0, [])).2.length → Ok ((fun (x2 : (Int × (List Bool))) =>
                                bif (decide (x2.1 < (((List.length (List.getD G i ((0 : Int), ([] : List Int))).2) : Nat) : Int))) then
                                  (gd ((0 : Int) ≤ x2.1) (gd (x2.1 < (((List.length (List.getD G i ((0 : Int), ([] : List Int))).2) : Nat) : Int)) (bif (decide ((List.getD (List.getD G i ((0 : Int), ([] : List Int))).2 (Int.toNat x2.1) (0 : Int)) < (-1 : Int))) then
                                        (some (Sum.inr (Sum.inr (false, x2.2))))
                                      else
                                        (bif (decide ((List.getD (List.getD G i ((0 : Int), ([] : List Int))).2 (Int.toNat x2.1) (0 : Int)) ≥ P * L)) then
                                          (some (Sum.inr (Sum.inr (false, x2.2))))
                                        else
                                          (bif (decide ((List.getD (List.getD G i ((0 : Int), ([] : List Int))).2 (Int.toNat x2.1) (0 : Int)) ≥ (0 : Int))) then
                                            (gd ((0 : Int) ≤ (List.getD (List.getD G i ((0 : Int), ([] : List Int))).2 (Int.toNat x2.1) (0 : Int))) (gd ((List.getD (List.getD G i ((0 : Int), ([] : List Int))).2 (Int.toNat x2.1) (0 : Int)) < (((List.length x2.2) : Nat) : Int)) (gd ((Int.toNat (List.getD (List.getD G i ((0 : Int), ([] : List Int))).2 (Int.toNat x2.1) (0 : Int))) < (List.length x2.2)) (bif (List.getD x2.2 (Int.toNat (List.getD (List.getD G i ((0 : Int), ([] : List Int))).2 (Int.toNat x2.1) (0 : Int))) false) then
                                                    (some (Sum.inr (Sum.inr (false, x2.2))))
                                                  else
                                                    (bif (decide ((List.getD (List.getD G i ((0 : Int), ([] : List Int))).2 (Int.toNat x2.1) (0 : Int)) ≥ (0 : Int))) then
                                                      (gd ((0 : Int) ≤ (List.getD (List.getD G i ((0 : Int), ([] : List Int))).2 (Int.toNat x2.1) (0 : Int))) (gd ((List.getD (List.getD G i ((0 : Int), ([] : List Int))).2 (Int.toNat x2.1) (0 : Int)) < (((List.length x2.2) : Nat) : Int)) (gd ((Int.toNat (List.getD (List.getD G i ((0 : Int), ([] : List Int))).2 (Int.toNat x2.1) (0 : Int))) < (List.length x2.2)) (some (Sum.inl ((Go.IntKind.wrap .i64 (x2.1 + (1 : Int))), (List.set x2.2 (Int.toNat (List.getD (List.getD G i ((0 : Int), ([] : List Int))).2 (Int.toNat x2.1) (0 : Int))) true)))))))
                                                    else
                                                      (some (Sum.inl ((Go.IntKind.wrap .i64 (x2.1 + (1 : Int))), x2.2))))))))
                                          else
                                            (bif (decide ((List.getD (List.getD G i ((0 : Int), ([] : List Int))).2 (Int.toNat x2.1) (0 : Int)) ≥ (0 : Int))) then
                                              (gd ((0 : Int) ≤ (List.getD (List.getD G i ((0 : Int), ([] : List Int))).2 (Int.toNat x2.1) (0 : Int))) (gd ((List.getD (List.getD G i ((0 : Int), ([] : List Int))).2 (Int.toNat x2.1) (0 : Int)) < (((List.length x2.2) : Nat) : Int)) (gd ((Int.toNat (List.getD (List.getD G i ((0 : Int), ([] : List Int))).2 (Int.toNat x2.1) (0 : Int))) < (List.length x2.2)) (some (Sum.inl ((Go.IntKind.wrap .i64 (x2.1 + (1 : Int))), (List.set x2.2 (Int.toNat (List.getD (List.getD G i ((0 : Int), ([] : List Int))).2 (Int.toNat x2.1) (0 : Int))) true)))))))
                                            else
                                              (some (Sum.inl ((Go.IntKind.wrap .i64 (x2.1 + (1 : Int))), x2.2)))))))))
                                else
                                  (some (Sum.inr (Sum.inl x2.2)))) ((j : Int), s)) (fun s => s.elim (fun y => j < (G.getD i (0, [])).2.length ∧ (y.1 = ((j + 1 : Nat) : Int) ∧ y.2.length = (P * L).toNat)) (fun e : List Bool ⊕ (Bool × List Bool) => match e with | .inl v => v.length = (P * L).toNat | .inr v => v.1 = false)) := by
      intro j s hs hj
      have hP := hs
      have hp32 : P ≤ 32 := by have := ‹shape P L K›.2.1; exact this
      refine Ok.cond (fun hc => ?_) (fun _ => Ok.inr hs)
      simp only [Int.toNat_natCast] at hc ⊢
      rw [wrap64 (n := (j : Int) + 1) (by omega) (by omega)]
      refine Ok.gd (by omega) (Ok.gd (by omega) ?_)
      refine Ok.cond (fun _ => Ok.inr rfl) (fun q1 => ?_)
      refine Ok.cond (fun _ => Ok.inr rfl) (fun q2 => ?_)
      refine Ok.cond (fun q3 => ?_) (fun q3 => ?_)
      · refine Ok.gd (by omega) (Ok.gd (by omega) (Ok.gd (by omega) ?_))
        refine Ok.condb (fun _ => Ok.inr rfl) (fun _ => ?_)
        refine Ok.cond (fun _ => ?_) (fun h => absurd q3 h)
        exact Ok.gd (by omega) (Ok.gd (by omega) (Ok.gd (by omega) (Ok.inl ⟨by omega, by simp, set_len hs⟩)))
      · exact Ok.cond (fun h => absurd h q3) (fun _ => Ok.inl ⟨by omega, by simp, hs⟩)
    refine Ok.cond (fun _ => ?_) (fun _ => ?_)
    · refine Ok.ncond (fun _ => Ok.inr rfl) (fun _ => ?_)
      exact key _ body
    · exact key _ body
  · refine Ok.elim (fun v e => ?_) (fun v e => ?_)
    · subst e
      exact Ok.some fun _ => ⟨by omega, hy⟩
    · subst e
      exact Ok.some fun h => by rw [hy] at h; simp at h

/-- The numbers of blocks that are one, of a list. -/
def posi (D : List Int) : List Int := D.filter fun x => decide (0 ≤ x)

theorem posi_snoc (D : List Int) (x : Int) : posi (D ++ [x]) = if 0 ≤ x then posi D ++ [x] else posi D := by
  unfold posi
  rw [List.filter_append]
  by_cases h : 0 ≤ x <;> simp [h]

theorem posi_len (D : List Int) : (posi D).length ≤ D.length := List.length_filter_le _ _

theorem m53_ok (P L K : Int) (D : List Int) (H : List Bool) (S : Int × (Int × Int)) (G : List (Int × List Int)) (hD : D.length ≤ 256) (hG : G.length ≤ 8) (hp : ∀ i, i < G.length → 0 ≤ (G.getD i (0, [])).1) :
    Ok (m53 ((P, (L, (K, (D, (H, (S, G)))))), ())) (fun r => (∀ x ∈ r.1, 0 ≤ x) ∧ r.1.length ≤ 300 ∧ (S.1 < 0 → G = [] → r.1 = posi D)) := by
  unfold m53
  refine Ok.bind (S := fun y => y = posi D) (Ok.loop D.length (fun i x => x.2 = (i : Int) ∧ x.1 = posi (D.take i)) ⟨rfl, rfl⟩ ?_) fun y hy => ?_
  · rintro i ⟨x1, x2⟩ hi ⟨hx, hl⟩
    simp only at hx hl
    subst hx hl
    refine Ok.cond (fun hc => ?_) (fun hc => Ok.inr ?_)
    · simp only [Int.toNat_natCast] at hc ⊢
      have hlen := posi_len (D.take i)
      simp only [List.length_take] at hlen
      rw [wrap64 (n := (i : Int) + 1) (by omega) (by omega), take_snoc D i (by omega) 0, posi_snoc]
      refine Ok.gd (by omega) (Ok.gd (by omega) ?_)
      refine Ok.cond (fun q => ?_) (fun q => Ok.inl ⟨by omega, by simp, by simp only; rw [if_neg (by omega)]⟩)
      refine Ok.gd (by omega) (Ok.gd (by omega) (Ok.gd (by simp; omega) (Ok.gd (by simp; omega) (Ok.inl ⟨by omega, by simp, by simp only; rw [if_pos (by omega)]⟩))))
    · simp only at hc
      rw [List.take_of_length_le (by omega)]
  · subst hy
    have hlen := posi_len D
    have hpos : ∀ x ∈ posi D, 0 ≤ x := fun x hx => by simpa using (List.mem_filter.1 hx).2
    have rest : ∀ y : List Int, (∀ x ∈ y, 0 ≤ x) → y.length ≤ 257 → ∀ T : List Int × Unit → Prop, (∀ z : List Int, (∀ x ∈ z, 0 ≤ x) → z.length ≤ 300 → (G = [] → z = y) → T (z, ())) →
        Ok (Option.bind (loopM (X := ((List Int) × Int)) (E := (List Int)) (fun (x2 : ((List Int) × Int)) =>
        bif (decide (x2.2 < (((List.length G) : Nat) : Int))) then
          (gd ((0 : Int) ≤ x2.2) (gd (x2.2 < (((List.length G) : Nat) : Int)) (gd ((((List.length x2.1) + (List.length ((List.getD G (Int.toNat x2.2) ((0 : Int), ([] : List Int))).1 :: ([] : List Int)))) * 8) ≤ 140737488355328) (gd (((List.length x2.1) + (List.length ((List.getD G (Int.toNat x2.2) ((0 : Int), ([] : List Int))).1 :: ([] : List Int)))) ≤ 140737488355328) (some (Sum.inl ((x2.1 ++ ((List.getD G (Int.toNat x2.2) ((0 : Int), ([] : List Int))).1 :: ([] : List Int))), (Go.IntKind.wrap .i64 (x2.2 + (1 : Int))))))))))
        else
          (some (Sum.inr x2.1))) (y, (0 : Int))) fun (y2 : (List Int)) =>
        some (y2, ())) T := by
      intro y hy hl T hT
      refine Ok.bind (S := fun z => (∀ x ∈ z, 0 ≤ x) ∧ z.length ≤ 300 ∧ (G = [] → z = y)) (Ok.loop G.length (fun i x => x.2 = (i : Int) ∧ (∀ v ∈ x.1, 0 ≤ v) ∧ x.1.length ≤ 257 + i ∧ (i = 0 → x.1 = y)) ⟨rfl, hy, hl, fun _ => rfl⟩ ?_) fun z hz => Ok.some (hT z hz.1 hz.2.1 hz.2.2)
      rintro i ⟨x1, x2⟩ hi ⟨hx, h1, h2, h3⟩
      simp only at hx h1 h2 h3
      subst hx
      refine Ok.cond (fun hc => ?_) (fun hc => Ok.inr ⟨h1, by show x1.length ≤ 300; omega, fun e => h3 (by subst e; simpa using hi)⟩)
      simp only [Int.toNat_natCast] at hc ⊢
      rw [wrap64 (n := (i : Int) + 1) (by omega) (by omega)]
      refine Ok.gd (by omega) (Ok.gd (by omega) (Ok.gd (by simp; omega) (Ok.gd (by simp; omega) (Ok.inl ⟨by omega, by simp, fun v hv => ?_, by simp; omega, fun e => by omega⟩))))
      rcases List.mem_append.1 hv with hv | hv
      · exact h1 v hv
      · simp only [List.mem_singleton] at hv
        rw [hv]; exact hp i (by omega)
    refine Ok.cond (fun q => ?_) (fun q => ?_)
    · simp only at q
      refine Ok.gd (by simp; omega) (Ok.gd (by simp; omega) ?_)
      refine rest _ (fun x hx => ?_) (by simp; omega) _ (fun z h1 h2 _ => ⟨h1, h2, fun h => by omega⟩)
      rcases List.mem_append.1 hx with hx | hx
      · exact hpos x hx
      · simp only [List.mem_singleton] at hx
        omega
    · exact rest _ hpos (by omega) _ (fun z h1 h2 h3 => ⟨h1, h2, fun _ hG => h3 hG⟩)

/-- What a table has that may be and has no logs. -/
structure Fine (P L K : Int) (D : List Int) (H : List Bool) : Prop where
  sh : shape P L K
  dl : (D.length : Int) = L
  hl : (H.length : Int) = P * L
  d1 : ∀ i, i < D.length → -1 ≤ D.getD i 0 ∧ D.getD i 0 < 256
  hd : ∀ p, p < H.length → H.getD p false = true → 0 ≤ D.getD (p / P.toNat) 0
  nd : (posi D).Nodup

theorem m23_ok (P L K : Int) (D : List Int) (H : List Bool) (S : Int × (Int × Int)) (G : List (Int × List Int)) :
    Ok (m23 ((P, (L, (K, (D, (H, (S, G)))))), ())) (fun r => r.1 = 0 → S.1 < 0 → G = [] → S = (-1, (0, 0)) ∧ Fine P L K D H) := by
  unfold m23
  refine Ok.bind (m43_shape P L K) fun y1 h1 => ?_
  refine Ok.ncond (fun _ => Ok.some (fun h => by simp at h)) (fun q1 => ?_)
  refine Ok.ncond (fun _ => Ok.some (fun h => by simp at h)) (fun q2 => ?_)
  refine Ok.ncond (fun _ => Ok.some (fun h => by simp at h)) (fun q3 => ?_)
  have hs := h1 q1
  have hm := shape_mul hs
  simp only at q2 q3 ⊢
  rw [wrap64 (by omega) (by omega)] at q3
  obtain ⟨p1, p2, p3, p4, p5, p6⟩ := hs
  obtain ⟨Q, rfl⟩ : ∃ Q : Nat, P = Q := ⟨P.toNat, by omega⟩
  refine Ok.bind (S := fun e => match e with | .inl _ => ∀ i, i < D.length → -1 ≤ D.getD i 0 | .inr v => v = 50) (Ok.loop D.length (fun i x => x = (i : Int) ∧ ∀ k, k < i → -1 ≤ D.getD k 0) ⟨rfl, fun k hk => by omega⟩ ?_) fun y2 hy2 => ?_
  · rintro i x hi ⟨rfl, hg⟩
    refine Ok.cond (fun hc => ?_) (fun hc => Ok.inr (fun k hk => hg k (by omega)))
    simp only [Int.toNat_natCast] at hc ⊢
    rw [wrap64 (n := (i : Int) + 1) (by omega) (by omega)]
    refine Ok.gd (by omega) (Ok.gd (by omega) ?_)
    refine Ok.cond (fun _ => Ok.inr rfl) (fun q => Ok.inl ⟨by omega, by omega, fun k hk => ?_⟩)
    by_cases e : k = i
    · subst e; omega
    · exact hg k (by omega)
  refine Ok.elim (fun v e => ?_) (fun v e => ?_)
  rotate_left
  · subst e
    simp only at hy2
    subst hy2
    exact Ok.some fun h => by simp at h
  subst e
  simp only at hy2
  have hdv : ∀ i : Nat, i < H.length → i / Q < D.length := fun i hi => by
    have : (H.length : Int) = L * Q := by omega
    have h2 : H.length = D.length * Q := by
      have : ((H.length : Nat) : Int) = ((D.length * Q : Nat) : Int) := by rw [this, Int.natCast_mul, q2]
      exact_mod_cast this
    exact Nat.div_lt_of_lt_mul (by rw [Nat.mul_comm]; omega)
  refine Ok.bind (S := fun e => match e with | .inl _ => ∀ p, p < H.length → H.getD p false = true → 0 ≤ D.getD (p / Q) 0 | .inr v => v = 50) (Ok.loop H.length (fun i x => x = (i : Int) ∧ ∀ p, p < i → H.getD p false = true → 0 ≤ D.getD (p / Q) 0) ⟨rfl, fun k hk => by omega⟩ ?_) fun y3 hy3 => ?_
  · rintro i x hi ⟨rfl, hg⟩
    refine Ok.cond (fun hc => ?_) (fun hc => Ok.inr (fun k hk => hg k (by omega)))
    simp only [Int.toNat_natCast] at hc ⊢
    have hi' : i < H.length := by omega
    have hdi := hdv i hi'
    obtain ⟨m, hmv⟩ : ∃ m, i / Q = m := ⟨_, rfl⟩
    have e1 : Int.tdiv (i : Int) (Q : Int) = (m : Int) := by rw [Int.tdiv_eq_ediv_of_nonneg (by omega), ← hmv]; rfl
    rw [hmv] at hdi
    rw [wrap64 (n := (i : Int) + 1) (by omega) (by omega), e1, wrap64 (n := (m : Int)) (by omega) (by omega)]
    simp only [Int.toNat_natCast]
    refine Ok.gd (by omega) (Ok.gd (by omega) ?_)
    refine Ok.condb (fun hh => ?_) (fun hh => Ok.inl ⟨by omega, by omega, fun k hk hv => ?_⟩)
    · refine Ok.ite (fun h => by omega) (fun _ => Ok.gd (by omega) (Ok.gd (by omega) ?_))
      refine Ok.cond (fun _ => Ok.inr rfl) (fun q => Ok.inl ⟨by omega, by omega, fun k hk hv => ?_⟩)
      by_cases e : k = i
      · subst e; rw [hmv]; omega
      · exact hg k (by omega) hv
    · by_cases e : k = i
      · subst e; rw [hh] at hv; simp at hv
      · exact hg k (by omega) hv
  refine Ok.elim (fun v e => ?_) (fun v e => ?_)
  rotate_left
  · subst e
    simp only at hy3
    subst hy3
    exact Ok.some fun h => by simp at h
  subst e
  simp only at hy3
  refine Ok.bind (m51_ok (Q, (L, (K, (D, (H, (S, G))))))) fun y6 h6 => ?_
  refine Ok.condb (fun _ => Ok.some (fun h => by simp at h)) (fun q6 => ?_)
  refine Ok.bind (m52_ok Q L K D H S G ⟨p1, p2, p3, p4, p5, p6⟩) fun y7 h7 => ?_
  refine Ok.condb (fun _ => Ok.some (fun h => by simp at h)) (fun q7 => ?_)
  have q6 : y6.1 = true := by simpa using q6
  have q7 : y7.1 = true := by simpa using q7
  obtain ⟨g1, g2⟩ := h7 q7
  refine Ok.gd (by omega) ?_
  refine Ok.bind (m53_ok Q L K D H S G (by omega) (by omega) g2) fun y8 h8 => ?_
  obtain ⟨l, ⟨⟩⟩ := y8
  obtain ⟨k1, k2, k3⟩ := h8
  simp only at k1 k2 k3 ⊢
  refine Ok.bind (S := fun e => match e with | .inl _ => l.Nodup ∧ ∀ x ∈ l, x < 256 | .inr v => v.1 = 50) (Ok.loop l.length (fun i x => x.1 = (i : Int) ∧ x.2.length = 256 ∧ (l.take i).Nodup ∧ (∀ v ∈ l.take i, v < 256) ∧ ∀ v : Nat, v < 256 → (x.2.getD v false = true ↔ (v : Int) ∈ l.take i)) ⟨rfl, by simp, by simp, by simp, fun v hv => ⟨fun h => by rw [List.getD_eq_getElem?_getD, List.getElem?_replicate] at h; split at h <;> simp at h, fun h => by simp at h⟩⟩ ?_) fun y9 hy9 => ?_
  · rintro i ⟨x1, x2⟩ hi ⟨hx, hl2, hn, hb, hv⟩
    simp only at hx hl2 hv
    subst hx
    refine Ok.cond (fun hc => ?_) (fun hc => Ok.inr ?_)
    · simp only [Int.toNat_natCast] at hc ⊢
      have hi' : i < l.length := by omega
      have hk := k1 (l.getD i 0) (by rw [List.getD_eq_getElem?_getD, List.getElem?_eq_getElem hi']; simp)
      rw [wrap64 (n := (i : Int) + 1) (by omega) (by omega), take_snoc l i hi' 0]
      obtain ⟨n, hzn⟩ : ∃ n : Nat, l.getD i 0 = n := ⟨(l.getD i 0).toNat, by omega⟩
      simp only [hzn, Int.toNat_natCast]
      refine Ok.gd (by omega) (Ok.gd (by omega) ?_)
      refine Ok.cond (fun _ => Ok.inr rfl) (fun q => ?_)
      refine Ok.gd (by omega) (Ok.gd (by omega) (Ok.gd (by omega) (Ok.gd (by omega) (Ok.gd (by omega) ?_))))
      refine Ok.condb (fun _ => Ok.inr rfl) (fun hf => ?_)
      refine Ok.gd (by omega) (Ok.gd (by omega) (Ok.gd (by omega) (Ok.gd (by omega) (Ok.gd (by omega) (Ok.inl ⟨by omega, by simp, by simp [hl2], ?_, ?_, ?_⟩)))))
      · have : (n : Int) ∉ l.take i := fun hm => by
          rw [(hv n (by omega)).2 hm] at hf; simp at hf
        rw [List.nodup_append]
        refine ⟨hn, by simp, fun a ha b hb' => ?_⟩
        simp only [List.mem_singleton] at hb'
        subst hb'
        exact fun e => this (e ▸ ha)
      · intro v hvm
        rcases List.mem_append.1 hvm with h | h
        · exact hb v h
        · simp only [List.mem_singleton] at h; omega
      · intro v hv2
        simp only [List.getD_eq_getElem?_getD, List.getElem?_set]
        by_cases e : n = v
        · subst e; rw [if_pos rfl, if_pos (by omega)]; simp
        · have := hv v hv2
          simp only [List.getD_eq_getElem?_getD] at this
          rw [if_neg e, this]
          simp only [List.mem_append, List.mem_singleton]
          constructor
          · exact .inl
          · rintro (h | h)
            · exact h
            · omega
    · simp only at hc
      rw [List.take_of_length_le (by omega)] at hn hb
      exact ⟨hn, hb⟩
  refine Ok.elim (fun v e => ?_) (fun v e => ?_)
  · subst e
    obtain ⟨j1, j2⟩ := hy9
    refine Ok.some fun _ hS hG => ?_
    have hl := k3 hS hG
    subst hl
    refine ⟨h6 q6 hS, ⟨p1, p2, p3, p4, p5, p6⟩, q2, by omega, fun i hi => ⟨hy2 i hi, ?_⟩, by simpa using hy3, j1⟩
    by_cases h0 : 0 ≤ D.getD i 0
    · refine j2 _ (List.mem_filter.2 ⟨?_, by simpa using h0⟩)
      rw [List.getD_eq_getElem?_getD, List.getElem?_eq_getElem hi]; simp
    · omega
  · subst e
    simp only at hy9
    exact Ok.some fun h => by simp only at h; omega
end Go.Proofs.Ytefekolpfklhdaa
end

section
/- Which blocks are settled, with no program in sight. -/
namespace Go.Proofs.Ytefekolpfklhdaa
open Go Go.Proofs.AM

def isPl (a : Int × Int) : Bool := decide (0 ≤ a.1 ∧ a.1 ≤ 255) && decide (0 ≤ a.2 ∧ a.2 ≤ 31)
theorem m50_eq (a : Int × Int) : m50 (a, ()) = some (isPl a, ()) := by
  unfold m50 isPl
  simp only [m48_eq, Option.bind_some]
  by_cases h : 0 ≤ a.1 ∧ a.1 ≤ 255 <;> simp [h]

/-- The page at a block's number. -/
abbrev at_ (u : List (Int × Int)) (p : Nat) : Int × Int := u.getD p (0, 0)

/-- A block of which all that is there stands in one block of the chip, each page at its number, and nothing else stands there. -/
structure Good (Q b : Nat) (u : List (Int × Int)) (ph : Int) : Prop where
  some : ∃ o, o < Q ∧ isPl (at_ u (b * Q + o)) = true
  all : ∀ o : Nat, o < Q → isPl (at_ u (b * Q + o)) = true → at_ u (b * Q + o) = (ph, (o : Int))
  alone : ∀ p, p < u.length → p / Q ≠ b → isPl (at_ u p) = true → (at_ u p).1 ≠ ph

theorem own_get {u : List (Int × Int)} {B Q o : Nat} (h : o < Q) : ((u.drop B).take Q).getD o (0, 0) = at_ u (B + o) := by
  simp only [at_, List.getD_eq_getElem?_getD, List.getElem?_take, if_pos h, List.getElem?_drop]

theorem own_len {u : List (Int × Int)} {B Q : Nat} (h : B + Q ≤ u.length) : ((u.drop B).take Q).length = Q := by simp; omega

theorem m32_ok (Q N b : Nat) (u : List (Int × Int)) (hQ : 4 ≤ Q ∧ Q ≤ 32) (hN : N ≤ 256) (hb : b < N) (hu : u.length = N * Q) :
    Ok (m32 ((Q : Int), (u, ((b : Int), ())))) (fun r => (r.2.1 = true → Good Q b u r.1) ∧ (r.2.1 = false → ∀ ph, ¬ Good Q b u ph)) := by
  obtain ⟨B, hB⟩ : ∃ B, b * Q = B := ⟨_, rfl⟩
  have hBN : B + Q ≤ u.length := by
    have : (b + 1) * Q ≤ N * Q := Nat.mul_le_mul_right Q hb
    rw [Nat.add_mul, hB] at this; omega
  have hlen : u.length ≤ 8192 := by
    have : N * Q ≤ 256 * 32 := Nat.mul_le_mul hN hQ.2
    omega
  have w0 : (b : Int) * (Q : Int) = (B : Int) := by rw [← hB]; simp
  have w0' : ((b : Int) + 1) * (Q : Int) = ((B + Q : Nat) : Int) := by rw [Int.add_mul, w0]; simp
  have w1 : IntKind.wrap .i64 ((b : Int) * (Q : Int)) = (B : Int) := by rw [w0, wrap64 (by omega) (by omega)]
  have w2 : IntKind.wrap .i64 (IntKind.wrap .i64 ((b : Int) + 1) * (Q : Int)) = ((B + Q : Nat) : Int) := by rw [wrap64 (n := (b : Int) + 1) (by omega) (by omega), w0', wrap64 (by omega) (by omega)]
  have hmod : Int.tmod (((List.length u) : Nat) : Int) (Q : Int) = 0 := by rw [hu]; simp
  have hdiv : Int.tdiv (((List.length u) : Nat) : Int) (Q : Int) = (N : Int) := by
    rw [hu, Int.natCast_mul, Int.mul_tdiv_cancel _ (by omega)]
  have hol : ((u.drop B).take Q).length = Q := own_len hBN
  unfold m32
  refine Ok.bind (Ok.of (m48_eq _ _ _) rfl) fun y1 h1 => ?_
  subst h1
  simp only [w1, w2, hmod, hdiv, Int.toNat_natCast, Nat.add_sub_cancel_left, hol]
  refine Ok.condb (fun h => ?_) (fun _ => ?_)
  · simp at h; omega
  refine Ok.ite (fun h => by omega) (fun _ => ?_)
  refine Ok.ncond (fun h => absurd trivial h) (fun _ => ?_)
  refine Ok.ite (fun h => by omega) (fun _ => ?_)
  refine Ok.bind (Ok.of (m48_eq _ _ _) rfl) fun y2 h2 => ?_
  subst h2
  rw [wrap64 (n := (N : Int)) (by omega) (by omega), wrap64 (n := (N : Int) - 1) (by omega) (by omega)]
  refine Ok.condb (fun h => ?_) (fun _ => ?_)
  · simp at h; omega
  refine Ok.gd (by omega) (Ok.gd (by omega) (Ok.gd (by omega) ?_))
  -- the block's own pages
  refine Ok.bind (S := fun e => match e with
      | .inl v => (v.2 = true ↔ ∃ o, o < Q ∧ isPl (at_ u (B + o)) = true) ∧ ∀ o : Nat, o < Q → isPl (at_ u (B + o)) = true → at_ u (B + o) = (v.1, (o : Int))
      | .inr v => v.2 = false ∧ ∀ ph, ¬ Good Q b u ph)
    (Ok.loop Q (fun i x => x.2.2 = (i : Int) ∧ (x.2.1 = true ↔ ∃ o, o < i ∧ isPl (at_ u (B + o)) = true) ∧ ∀ o : Nat, o < i → isPl (at_ u (B + o)) = true → at_ u (B + o) = (x.1, (o : Int))) ⟨rfl, by simp, fun o ho => by omega⟩ ?_) fun y3 hy3 => ?_
  · rintro i ⟨x1, x2, x3⟩ hi ⟨hx, hs, ha⟩
    simp only at hx hs ha
    subst hx
    refine Ok.cond (fun hc => ?_) (fun hc => Ok.inr ?_)
    · have hi' : i < Q := by simp only at hc; omega
      simp only [Int.toNat_natCast, own_get hi', m50_eq, wrap64 (n := (i : Int) + 1) (by omega) (by omega)]
      refine Ok.gd (by omega) (Ok.gd (by omega) ?_)
      refine Ok.bind (Ok.of rfl rfl) fun y4 h4 => ?_
      subst h4
      have step : isPl (at_ u (B + i)) = true → at_ u (B + i) = ((at_ u (B + i)).1, (i : Int)) → (x2 = true → (at_ u (B + i)).1 = x1) → Ok (some (Sum.inl ((at_ u (B + i)).1, (true, ((i : Int) + 1))))) (fun s : (Int × (Bool × Int)) ⊕ ((Int × Bool) ⊕ (Int × Bool)) => s.elim (fun y => i < Q ∧ (y.2.2 = ((i + 1 : Nat) : Int) ∧ (y.2.1 = true ↔ ∃ o, o < i + 1 ∧ isPl (at_ u (B + o)) = true) ∧ ∀ o : Nat, o < i + 1 → isPl (at_ u (B + o)) = true → at_ u (B + o) = (y.1, (o : Int)))) (fun e => match e with
          | .inl v => (v.2 = true ↔ ∃ o, o < Q ∧ isPl (at_ u (B + o)) = true) ∧ ∀ o : Nat, o < Q → isPl (at_ u (B + o)) = true → at_ u (B + o) = (v.1, (o : Int))
          | .inr v => v.2 = false ∧ ∀ ph, ¬ Good Q b u ph)) := by
        intro hp he hsame
        refine Ok.inl ⟨hi', by simp, ⟨fun _ => ⟨i, by omega, hp⟩, fun _ => rfl⟩, fun o ho hpo => ?_⟩
        by_cases e : o = i
        · subst e; exact he
        · have h1 := hs.2 ⟨o, by omega, hpo⟩
          rw [ha o (by omega) hpo, hsame h1]
      refine Ok.condb (fun hp => ?_) (fun hp => ?_)
      · have hp : isPl (at_ u (B + i)) = false := by simpa using hp
        refine Ok.inl ⟨hi', by simp, ?_, fun o ho hpo => ?_⟩
        · simp only
          rw [hs]
          constructor
          · rintro ⟨o, h1, h2⟩; exact ⟨o, by omega, h2⟩
          · rintro ⟨o, h1, h2⟩
            by_cases e : o = i
            · subst e; rw [hp] at h2; simp at h2
            · exact ⟨o, by omega, h2⟩
        · by_cases e : o = i
          · subst e; rw [hp] at hpo; simp at hpo
          · exact ha o (by omega) hpo
      · have hp : isPl (at_ u (B + i)) = true := by simpa using hp
        have bad : (at_ u (B + i)).2 ≠ (i : Int) → ∀ ph, ¬ Good Q b u ph := fun h ph hg => by
          have := hg.all i hi' (by rw [hB]; exact hp)
          rw [hB] at this
          exact h (by rw [this])
        refine Ok.condb (fun hx2 => ?_) (fun hx2 => ?_)
        · refine Ok.condb (fun hne => Ok.inr ⟨rfl, fun ph hg => ?_⟩) (fun heq => ?_)
          · obtain ⟨o, ho, hpo⟩ := hs.1 hx2
            have h1 := ha o ho hpo
            have h2 := hg.all o (by omega) (by rw [hB]; exact hpo)
            have h3 := hg.all i hi' (by rw [hB]; exact hp)
            rw [hB] at h2 h3
            rw [h1] at h2
            have e1 : x1 = ph := congrArg Prod.fst h2
            rw [h3] at hne
            simp [e1] at hne
          · have heq : (at_ u (B + i)).1 = x1 ∧ (at_ u (B + i)).2 = (i : Int) := by simpa [at_] using heq
            refine Ok.ncond (fun h => absurd heq.2 h) (fun _ => ?_)
            exact step hp (by rw [← heq.2]) (fun _ => heq.1)
        · refine Ok.ncond (fun h => Ok.inr ⟨rfl, bad h⟩) (fun h => ?_)
          exact step hp (by rw [← h]) (fun h' => by rw [hx2] at h'; simp at h')
    · have e : i = Q := by simp only at hc; omega
      subst e
      exact ⟨hs, ha⟩
  refine Ok.elim (fun v e => ?_) (fun v e => ?_)
  rotate_left
  · subst e
    exact Ok.some ⟨fun h => by rw [hy3.1] at h; simp at h, fun _ => hy3.2⟩
  subst e
  obtain ⟨hs, ha⟩ := hy3
  refine Ok.condb (fun h => Ok.some ⟨fun h' => by simp at h', fun _ ph hg => ?_⟩) (fun h => ?_)
  · have hv : v.2 = false := by simpa using h
    obtain ⟨o, ho, hpo⟩ := hg.some
    rw [hB] at hpo
    have := hs.2 ⟨o, ho, hpo⟩
    rw [hv] at this; simp at this
  have hv : v.2 = true := by simpa using h
  have huniq : ∀ ph, Good Q b u ph → ph = v.1 := fun ph hg => by
    obtain ⟨o, ho, hpo⟩ := hs.1 hv
    have h1 := ha o ho hpo
    have h2 := hg.all o ho (by rw [hB]; exact hpo)
    rw [hB, h1] at h2
    exact (congrArg Prod.fst h2).symm
  refine Ok.bind (S := fun e => match e with
      | .inl _ => ∀ p, p < u.length → p / Q ≠ b → isPl (at_ u p) = true → (at_ u p).1 ≠ v.1
      | .inr v => v.2 = false ∧ ∀ ph, ¬ Good Q b u ph)
    (Ok.loop u.length (fun i x => x = (i : Int) ∧ ∀ p, p < i → p / Q ≠ b → isPl (at_ u p) = true → (at_ u p).1 ≠ v.1) ⟨rfl, fun o ho => by omega⟩ ?_) fun y5 hy5 => ?_
  · rintro i x hi ⟨rfl, hg⟩
    refine Ok.cond (fun hc => ?_) (fun hc => Ok.inr (fun p hp => hg p (by omega)))
    simp only [Int.toNat_natCast] at hc ⊢
    obtain ⟨m, hmv⟩ : ∃ m, i / Q = m := ⟨_, rfl⟩
    have hmi : m ≤ i := by rw [← hmv]; exact Nat.div_le_self _ _
    have e1 : Int.tdiv (i : Int) (Q : Int) = (m : Int) := by rw [Int.tdiv_eq_ediv_of_nonneg (by omega), ← hmv]; rfl
    simp only [wrap64 (n := (i : Int) + 1) (by omega) (by omega), e1, wrap64 (n := (m : Int)) (by omega) (by omega), m50_eq]
    have next : (m ≠ b → isPl (at_ u i) = true → (at_ u i).1 ≠ v.1) → Ok (some (Sum.inl ((i : Int) + 1))) (fun s : Int ⊕ (Unit ⊕ (Int × Bool)) => s.elim (fun y => i < u.length ∧ (y = ((i + 1 : Nat) : Int) ∧ ∀ p, p < i + 1 → p / Q ≠ b → isPl (at_ u p) = true → (at_ u p).1 ≠ v.1)) (fun e => match e with
      | .inl _ => ∀ p, p < u.length → p / Q ≠ b → isPl (at_ u p) = true → (at_ u p).1 ≠ v.1
      | .inr v => v.2 = false ∧ ∀ ph, ¬ Good Q b u ph)) := fun h => by
      refine Ok.inl ⟨by omega, by omega, fun p hp h1 h2 => ?_⟩
      by_cases e : p = i
      · subst e; exact h (by rw [← hmv]; exact h1) h2
      · exact hg p (by omega) h1 h2
    refine Ok.gd (by omega) (Ok.gd (by omega) (Ok.ite (fun h => by omega) fun _ => ?_))
    refine Ok.ncond (fun hne => ?_) (fun he => next (fun h => absurd (by omega) h))
    refine Ok.bind (Ok.of rfl rfl) fun y6 h6 => ?_
    subst h6
    refine Ok.condb (fun hp => ?_) (fun hp => next (fun _ h => by simp only at hp; rw [hp] at h; simp at h))
    refine Ok.cond (fun hq => Ok.inr ⟨rfl, fun ph hgd => ?_⟩) (fun hq => next (fun _ _ => hq))
    have := huniq ph hgd
    subst this
    exact hgd.alone i (by omega) (by rw [hmv]; omega) hp hq
  refine Ok.elim (fun w e => ?_) (fun w e => ?_)
  · subst e
    refine Ok.some ⟨fun _ => ⟨?_, fun o ho hp => ?_, hy5⟩, fun h => by simp at h⟩
    · obtain ⟨o, ho, hpo⟩ := hs.1 hv
      exact ⟨o, ho, by rw [hB]; exact hpo⟩
    · rw [hB] at hp ⊢; exact ha o ho hp
  · subst e
    exact Ok.some ⟨fun h => by rw [hy5.1] at h; simp at h, fun _ => hy5.2⟩
end Go.Proofs.Ytefekolpfklhdaa
end

section
/- The table of places, with no program in sight. -/
namespace Go.Proofs.Ytefekolpfklhdaa
open Go Go.Proofs.AM

theorem getD_set {A : Type} (l : List A) (i j : Nat) (x z : A) (h : i < l.length) : (l.set i x).getD j z = if i = j then x else l.getD j z := by
  simp only [List.getD_eq_getElem?_getD, List.getElem?_set]
  by_cases e : i = j
  · subst e; simp [h]
  · simp [e]

theorem getD_rep {A : Type} (n j : Nat) (x : A) : (List.replicate n x).getD j x = x := by
  rw [List.getD_eq_getElem?_getD, List.getElem?_replicate]
  split <;> rfl

theorem m38_shape {Q N : Nat} {K : Int} (h : shape Q N K) : m38 ((Q : Int), ((N : Int), (K, ()))) = some (((Q : Int), ((N : Int), (K, (List.replicate N (-1 : Int), (List.replicate (N * Q) false, ((-1, (0, 0)), [])))))), (0, ())) := by
  have hm := shape_mul h
  obtain ⟨h1, h2, h3, h4, h5, h6⟩ := h
  have e : (N : Int) * (Q : Int) = ((N * Q : Nat) : Int) := by simp
  unfold m38
  simp only [Bool.cond_eq_ite, decide_eq_true_eq]
  rw [if_neg (by omega), if_neg (by omega), if_neg (by omega), if_neg (by omega), if_neg (by omega), if_neg (by omega), m66_eq _ _ (by omega) (by omega), wrap64 (n := (N : Int) * Q) (by omega) (by omega)]
  simp only [Option.bind_some]
  rw [gd_pos (by omega), gd_pos (by omega), gd_pos (by omega), e]
  simp only [Int.toNat_natCast]

def TabAt (Q : Nat) (u : List (Int × Int)) (loose D : List Int) (H : List Bool) (b : Nat) : Prop :=
  (∃ ph, Good Q b u ph ∧ D.getD b (-1) = ph ∧ (b : Int) ∉ loose ∧ ∀ o, o < Q → H.getD (b * Q + o) false = isPl (at_ u (b * Q + o))) ∨
  ((∀ ph, ¬ Good Q b u ph) ∧ D.getD b (-1) = -1 ∧ (∀ o, o < Q → H.getD (b * Q + o) false = false) ∧ ((b : Int) ∈ loose ↔ ∃ o, o < Q ∧ isPl (at_ u (b * Q + o)) = true))

theorem TabAt.same {Q : Nat} {u : List (Int × Int)} {loose loose' D D' : List Int} {H H' : List Bool} {b : Nat} (h : TabAt Q u loose D H b) (h1 : D'.getD b (-1) = D.getD b (-1)) (h2 : (b : Int) ∈ loose' ↔ (b : Int) ∈ loose)
    (h3 : ∀ o, o < Q → H'.getD (b * Q + o) false = H.getD (b * Q + o) false) : TabAt Q u loose' D' H' b := by
  rcases h with ⟨ph, a1, a2, a3, a4⟩ | ⟨a1, a2, a3, a4⟩
  · exact .inl ⟨ph, a1, h1.trans a2, fun h => a3 (h2.1 h), fun o ho => (h3 o ho).trans (a4 o ho)⟩
  · exact .inr ⟨a1, h1.trans a2, fun o ho => (h3 o ho).trans (a3 o ho), h2.trans a4⟩

theorem m25_ok (Q N : Nat) (K : Int) (u : List (Int × Int)) (hs : shape Q N K) (hu : u.length = N * Q) :
    Ok (m25 ((Q : Int), ((N : Int), (K, (u, ()))))) (fun r => ∃ (D : List Int) (H : List Bool) (loose : List Int), r = (((Q : Int), ((N : Int), (K, (D, (H, ((-1, (0, 0)), [])))))), (loose, (0, ()))) ∧ D.length = N ∧ H.length = N * Q ∧ loose.length ≤ N ∧ (∀ x : Int, x ∈ loose → 0 ≤ x ∧ x < N) ∧ ∀ b, b < N → TabAt Q u loose D H b) := by
  have hm := shape_mul hs
  obtain ⟨p1, p2, p3, p4, p5, p6⟩ := hs
  have hNQ : ((N * Q : Nat) : Int) = (N : Int) * (Q : Int) := by simp
  have hlen : N * Q ≤ 8192 := by omega
  unfold m25
  simp only [m38_shape ⟨p1, p2, p3, p4, p5, p6⟩, Option.bind_some]
  refine Ok.ncond (fun h => absurd trivial h) (fun _ => ?_)
  rw [wrap64 (n := (N : Int) * Q) (by omega) (by omega)]
  refine Ok.ncond (fun h => absurd (by rw [hu]; omega) h) (fun _ => ?_)
  refine Ok.bind (S := fun y => y.2.1.length = N ∧ y.2.2.length = N * Q ∧ y.1.length ≤ N ∧ (∀ x : Int, x ∈ y.1 → 0 ≤ x ∧ x < N) ∧ ∀ b, b < N → TabAt Q u y.1 y.2.1 y.2.2 b)
    (Ok.loop N (fun i x => x.2.1 = (i : Int) ∧ x.2.2.1.length = N ∧ x.2.2.2.length = N * Q ∧ x.1.length ≤ i ∧ (∀ v ∈ x.1, 0 ≤ v ∧ v < (i : Int)) ∧ (∀ b, b < i → TabAt Q u x.1 x.2.2.1 x.2.2.2 b) ∧ (∀ b, i ≤ b → x.2.2.1.getD b (-1) = -1) ∧ ∀ p, i * Q ≤ p → x.2.2.2.getD p false = false)
      ⟨rfl, by simp, by simp, by simp, by simp, fun b hb => by omega, fun b _ => getD_rep _ _ _, fun p _ => getD_rep _ _ _⟩ ?_) fun y hy => ?_
  · rintro i ⟨loose, x2, D, H⟩ hi ⟨hx, hD, hH, hl, hlo, hT, hD1, hH1⟩
    simp only at hx hD hH hl hlo hT hD1 hH1
    subst hx
    refine Ok.cond (fun hc => ?_) (fun hc => Ok.inr ?_)
    rotate_left
    · have e : i = N := by simp only at hc; omega
      subst e
      exact ⟨hD, hH, hl, hlo, hT⟩
    have hi' : i < N := by simp only at hc; omega
    obtain ⟨B, hB⟩ : ∃ B, i * Q = B := ⟨_, rfl⟩
    have hBN : B + Q ≤ u.length := by
      have : (i + 1) * Q ≤ N * Q := Nat.mul_le_mul_right Q hi'
      rw [Nat.add_mul, hB] at this; omega
    have below : ∀ b, b < i → ∀ o, o < Q → b * Q + o < B := fun b hb o ho => by
      have : (b + 1) * Q ≤ i * Q := Nat.mul_le_mul_right Q hb
      rw [Nat.add_mul, hB] at this; omega
    have w0 : (i : Int) * (Q : Int) = (B : Int) := by rw [← hB]; simp
    have w0' : ((i : Int) + 1) * (Q : Int) = ((B + Q : Nat) : Int) := by rw [Int.add_mul, w0]; simp
    have w1 : IntKind.wrap .i64 ((i : Int) * (Q : Int)) = (B : Int) := by rw [w0, wrap64 (by omega) (by omega)]
    have w2 : IntKind.wrap .i64 (IntKind.wrap .i64 ((i : Int) + 1) * (Q : Int)) = ((B + Q : Nat) : Int) := by rw [wrap64 (n := (i : Int) + 1) (by omega) (by omega), w0', wrap64 (by omega) (by omega)]
    have w3 : IntKind.wrap .i64 ((i : Int) + 1) = (i : Int) + 1 := wrap64 (by omega) (by omega)
    have w2' : IntKind.wrap .i64 (((i : Int) + 1) * (Q : Int)) = ((B + Q : Nat) : Int) := by rw [w0', wrap64 (by omega) (by omega)]
    have hol : ((u.drop B).take Q).length = Q := own_len hBN
    simp only [w1, w3, w2', Int.toNat_natCast, Nat.add_sub_cancel_left, hol]
    refine Ok.gd (by omega) (Ok.gd (by omega) (Ok.gd (by omega) ?_))
    refine Ok.bind (m32_ok Q N i u (by omega) (by omega) hi' hu) fun y3 h3 => ?_
    obtain ⟨h31, h32⟩ := h3
    rw [hB] at hH1
    refine Ok.condb (fun hb => ?_) (fun hb => ?_)
    · have hg := h31 hb
      refine Ok.gd (by omega) (Ok.gd (by omega) (Ok.gd (by omega) ?_))
      refine Ok.bind (S := fun H' => H'.length = N * Q ∧ (∀ p, (p < B ∨ B + Q ≤ p) → H'.getD p false = H.getD p false) ∧ ∀ o, o < Q → H'.getD (B + o) false = isPl (at_ u (B + o)))
        (Ok.loop Q (fun j x => x.1 = (j : Int) ∧ x.2.length = N * Q ∧ (∀ p, (p < B ∨ B + j ≤ p) → x.2.getD p false = H.getD p false) ∧ ∀ o, o < j → x.2.getD (B + o) false = isPl (at_ u (B + o))) ⟨rfl, hH, fun _ _ => rfl, fun o ho => by omega⟩ ?_) fun H' hH' => ?_
      · rintro j ⟨x1, H2⟩ hj ⟨hx, g1, g2, g3⟩
        simp only at hx g1 g2 g3
        subst hx
        refine Ok.cond (fun hc => ?_) (fun hc => Ok.inr ?_)
        · have hj' : j < Q := by simp only at hc; omega
          have w4 : IntKind.wrap .i64 ((B : Int) + (j : Int)) = ((B + j : Nat) : Int) := by rw [wrap64 (by omega) (by omega)]; simp
          simp only [Int.toNat_natCast, own_get hj', m50_eq, wrap64 (n := (j : Int) + 1) (by omega) (by omega), w4]
          refine Ok.gd (by omega) (Ok.gd (by omega) ?_)
          refine Ok.bind (Ok.of rfl rfl) fun y5 h5 => ?_
          subst h5
          refine Ok.gd (by omega) (Ok.gd (by omega) (Ok.gd (by omega) (Ok.inl ⟨hj', by simp, by simp [g1], fun p hp => ?_, fun o ho => ?_⟩)))
          · simp only
            rw [getD_set _ _ _ _ _ (by omega), if_neg (by omega)]
            exact g2 p (by omega)
          · simp only
            rw [getD_set _ _ _ _ _ (by omega)]
            by_cases e : o = j
            · subst e; rw [if_pos rfl]
            · rw [if_neg (by omega)]; exact g3 o (by omega)
        · have e : j = Q := by simp only at hc; omega
          subst e
          exact ⟨g1, g2, g3⟩
      · obtain ⟨g1, g2, g3⟩ := hH'
        refine Ok.inl ⟨hi', by simp, by simp [hD], g1, by simp only; omega, fun v hv => ?_, fun b hb' => ?_, fun b hb' => ?_, fun p hp => ?_⟩
        · have := hlo v hv; omega
        · by_cases e : b = i
          · subst e
            left
            refine ⟨_, hg, ?_, fun hv => ?_, fun o ho => ?_⟩
            · simp only; rw [getD_set _ _ _ _ _ (by omega), if_pos rfl]
            · have := hlo _ hv; omega
            · simp only; rw [hB]; exact g3 o ho
          · refine (hT b (by omega)).same ?_ Iff.rfl (fun o ho => ?_)
            · simp only; rw [getD_set _ _ _ _ _ (by omega), if_neg (by omega)]
            · simp only; exact g2 _ (.inl (below b (by omega) o ho))
        · simp only; rw [getD_set _ _ _ _ _ (by omega), if_neg (by omega)]; exact hD1 b (by omega)
        · have hp' : B + Q ≤ p := by rw [Nat.add_mul, hB] at hp; omega
          simp only; rw [g2 p (.inr hp')]; exact hH1 p (by omega)
    · have hng := h32 hb
      have hHo : ∀ o, o < Q → H.getD (i * Q + o) false = false := fun o _ => hH1 _ (by omega)
      have fin : ∀ loose' : List Int, loose'.length ≤ i + 1 → (∀ v ∈ loose', 0 ≤ v ∧ v < ((i + 1 : Nat) : Int)) → (∀ b, b < i → ((b : Int) ∈ loose' ↔ (b : Int) ∈ loose)) → ((i : Int) ∈ loose' ↔ ∃ o, o < Q ∧ isPl (at_ u (i * Q + o)) = true) →
          Ok (some (Sum.inl (loose', ((i : Int) + 1, (D, H))))) (fun s : ((List Int) × (Int × ((List Int) × (List Bool)))) ⊕ ((List Int) × ((List Int) × (List Bool))) => s.elim (fun x => i < N ∧ (x.2.1 = ((i + 1 : Nat) : Int) ∧ x.2.2.1.length = N ∧ x.2.2.2.length = N * Q ∧ x.1.length ≤ i + 1 ∧ (∀ v ∈ x.1, 0 ≤ v ∧ v < ((i + 1 : Nat) : Int)) ∧ (∀ b, b < i + 1 → TabAt Q u x.1 x.2.2.1 x.2.2.2 b) ∧ (∀ b, i + 1 ≤ b → x.2.2.1.getD b (-1) = -1) ∧ ∀ p, (i + 1) * Q ≤ p → x.2.2.2.getD p false = false))
            (fun y => y.2.1.length = N ∧ y.2.2.length = N * Q ∧ y.1.length ≤ N ∧ (∀ x : Int, x ∈ y.1 → 0 ≤ x ∧ x < N) ∧ ∀ b, b < N → TabAt Q u y.1 y.2.1 y.2.2 b)) := by
        intro loose' c1 c2 c3 c4
        refine Ok.inl ⟨hi', by simp, hD, hH, c1, c2, fun b hb' => ?_, fun b hb' => hD1 b (by omega), fun p hp => hH1 p (by rw [Nat.add_mul, hB] at hp; omega)⟩
        by_cases e : b = i
        · subst e
          exact .inr ⟨hng, hD1 b (Nat.le_refl _), hHo, c4⟩
        · exact (hT b (by omega)).same rfl (c3 b (by omega)) (fun _ _ => rfl)
      refine Ok.bind (S := fun e => match e with
          | .inl _ => ∀ o, o < Q → isPl (at_ u (B + o)) = false
          | .inr v => 0 ≤ v ∧ ∃ o, o < Q ∧ isPl (at_ u (B + o)) = true)
        (Ok.loop Q (fun j x => x = (j : Int) ∧ ∀ o, o < j → isPl (at_ u (B + o)) = false) ⟨rfl, fun o ho => by omega⟩ ?_) fun y4 hy4 => ?_
      · rintro j x hj ⟨rfl, g1⟩
        refine Ok.cond (fun hc => ?_) (fun hc => Ok.inr (fun o ho => g1 o (by omega)))
        have hj' : j < Q := by omega
        simp only [Int.toNat_natCast, own_get hj', m50_eq, wrap64 (n := (j : Int) + 1) (by omega) (by omega)]
        refine Ok.gd (by omega) (Ok.gd (by omega) ?_)
        refine Ok.bind (Ok.of rfl rfl) fun y5 h5 => ?_
        subst h5
        refine Ok.condb (fun hp => Ok.inr ⟨by omega, j, hj', hp⟩) (fun hp => Ok.inl ⟨hj', by omega, fun o ho => ?_⟩)
        by_cases e : o = j
        · subst e; exact hp
        · exact g1 o (by omega)
      · refine Ok.elim (fun v e => ?_) (fun v e => ?_)
        · subst e
          refine Ok.cond (fun h => by omega) (fun _ => fin loose (by omega) (fun v hv => by have := hlo v hv; omega) (fun _ _ => Iff.rfl) ?_)
          constructor
          · intro hv; have := hlo _ hv; omega
          · rintro ⟨o, ho, hp⟩
            rw [hB, hy4 o ho] at hp; simp at hp
        · subst e
          refine Ok.cond (fun _ => ?_) (fun h => absurd hy4.1 h)
          refine Ok.gd (by simp; omega) (Ok.gd (by simp; omega) (fin _ (by simp; omega) (fun v hv => ?_) (fun b hb' => ?_) ?_))
          · rcases List.mem_append.1 hv with hv | hv
            · have := hlo v hv; omega
            · simp only [List.mem_singleton] at hv; omega
          · simp only [List.mem_append, List.mem_singleton]
            constructor
            · rintro (h | h)
              · exact h
              · omega
            · exact .inl
          · simp only [List.mem_append, List.mem_singleton, or_true, true_iff]
            rw [hB]; exact hy4.2
  · obtain ⟨loose, D, H⟩ := y
    obtain ⟨a1, a2, a3, a4, a5⟩ := hy
    exact Ok.some ⟨D, H, loose, rfl, a1, a2, a3, a4, a5⟩
end Go.Proofs.Ytefekolpfklhdaa
end

section
/- The blocks that are needed, with no program in sight. -/
namespace Go.Proofs.Ytefekolpfklhdaa
open Go Go.Proofs.AM

theorem asc_eq : ∀ {l m : List Int}, l.Pairwise (· < ·) → m.Pairwise (· < ·) → (∀ x, x ∈ l ↔ x ∈ m) → l = m
  | [], [], _, _, _ => rfl
  | a :: l, [], _, _, h => by have := (h a).1 (by simp); simp at this
  | [], b :: m, _, _, h => by have := (h b).2 (by simp); simp at this
  | a :: l, b :: m, h1, h2, h => by
    rw [List.pairwise_cons] at h1 h2
    have hab : a = b := by
      rcases List.mem_cons.1 ((h a).1 (by simp)) with e | e
      · exact e
      · rcases List.mem_cons.1 ((h b).2 (by simp)) with e' | e'
        · exact e'.symm
        · have := h1.1 b e'
          have := h2.1 a e
          omega
    subst hab
    congr 1
    refine asc_eq h1.2 h2.2 fun x => ⟨fun hx => ?_, fun hx => ?_⟩
    · rcases List.mem_cons.1 ((h x).1 (by simp [hx])) with e | e
      · have := h1.1 x hx; omega
      · exact e
    · rcases List.mem_cons.1 ((h x).2 (by simp [hx])) with e | e
      · have := h2.1 x hx; omega
      · exact e

theorem compact_asc (d : Array Int) (hs : ∀ i j, i < j → j < d.size → d[i]! ≤ d[j]!) : ∀ m, m ≤ d.size → (Lib.compactUpTo d m).Pairwise (· < ·) ∧ ∀ x, x ∈ Lib.compactUpTo d m ↔ ∃ j, j < m ∧ d[j]! = x
  | 0, _ => ⟨by simp [Lib.compactUpTo], fun x => by simp [Lib.compactUpTo]⟩
  | m + 1, h => by
    obtain ⟨ih1, ih2⟩ := compact_asc d hs m (by omega)
    rw [Lib.compactUpTo_succ]
    cases hk : Lib.keeps d m with
    | true =>
      have hk' : m = 0 ∨ d[m]! ≠ d[m - 1]! := by simpa [Lib.keeps] using hk
      simp only [if_true]
      refine ⟨?_, fun x => ?_⟩
      · rw [List.pairwise_append]
        refine ⟨ih1, by simp, fun x hx y hy => ?_⟩
        simp only [List.mem_singleton] at hy
        subst hy
        obtain ⟨j, hj, rfl⟩ := (ih2 x).1 hx
        have h1 := hs (m - 1) m (by omega) (by omega)
        by_cases e : j = m - 1
        · subst e
          rcases hk' with hk' | hk'
          · omega
          · omega
        · have := hs j (m - 1) (by omega) (by omega)
          rcases hk' with hk' | hk' <;> omega
      · rw [List.mem_append, ih2 x, List.mem_singleton]
        constructor
        · rintro (⟨j, hj, e⟩ | e)
          · exact ⟨j, by omega, e⟩
          · exact ⟨m, by omega, e.symm⟩
        · rintro ⟨j, hj, e⟩
          by_cases hjm : j = m
          · subst hjm; exact .inr e.symm
          · exact .inl ⟨j, by omega, e⟩
    | false =>
      have hk' : m ≠ 0 ∧ d[m]! = d[m - 1]! := by
        have : ¬ (m = 0 ∨ d[m]! ≠ d[m - 1]!) := by simpa [Lib.keeps] using hk
        refine ⟨fun e => this (.inl e), ?_⟩
        by_cases e : d[m]! = d[m - 1]!
        · exact e
        · exact absurd (.inr e) this
      simp only [Bool.false_eq_true, if_false, List.append_nil]
      refine ⟨ih1, fun x => (ih2 x).trans ?_⟩
      constructor
      · rintro ⟨j, hj, e⟩; exact ⟨j, by omega, e⟩
      · rintro ⟨j, hj, e⟩
        by_cases hjm : j = m
        · subst hjm; exact ⟨j - 1, by omega, by rw [← hk'.2]; exact e⟩
        · exact ⟨j, by omega, e⟩

theorem compactI_ok (l : List Int) : (compactI (sortI l)).Pairwise (· < ·) ∧ (∀ x, x ∈ compactI (sortI l) ↔ x ∈ l) ∧ (compactI (sortI l)).length ≤ l.length := by
  have hp := sortI_perm l
  have hl := sortI_len l
  have hsort : (sortI l).Pairwise fun x y => decide (x ≤ y) = true := by
    unfold sortI
    apply List.pairwise_mergeSort
    · intro a b c h1 h2
      simp only [decide_eq_true_eq] at *
      omega
    · intro a b
      simp only [Bool.or_eq_true, decide_eq_true_eq]
      omega
  have hs : ∀ i j, i < j → j < (sortI l).toArray.size → (sortI l).toArray[i]! ≤ (sortI l).toArray[j]! := by
    intro i j hij hj
    have hj' : j < (sortI l).length := by simpa using hj
    have := List.pairwise_iff_getElem.1 hsort i j (by omega) hj' hij
    rw [getElem!_pos _ i (by simp; omega), getElem!_pos _ j hj]
    simpa using this
  obtain ⟨h1, h2⟩ := compact_asc (sortI l).toArray hs (sortI l).length (by simp)
  refine ⟨h1, fun x => (h2 x).trans ?_, by have := compact_le (sortI l); unfold compactI; omega⟩
  rw [← hp.mem_iff]
  constructor
  · rintro ⟨j, hj, e⟩
    rw [getElem!_pos _ j (by simpa using hj)] at e
    rw [← e]; simp
  · intro hx
    obtain ⟨j, hj, e⟩ := List.getElem_of_mem hx
    exact ⟨j, hj, by rw [getElem!_pos _ j (by simpa using hj)]; simpa using e⟩

theorem m63_eq (a : Int × Int) : m63 (a, ()) = some (isPl a, ()) := by
  unfold m63 isPl
  by_cases h1 : a.1 ≥ 0
  · by_cases h2 : a.1 < 256
    · by_cases h3 : a.2 ≥ 0
      · have e : (decide (0 ≤ a.1 ∧ a.1 ≤ 255) && decide (0 ≤ a.2 ∧ a.2 ≤ 31)) = decide (a.2 < 32) := by
          by_cases h4 : a.2 < 32
          · rw [decide_eq_true h4, decide_eq_true (show 0 ≤ a.1 ∧ a.1 ≤ 255 by omega), decide_eq_true (show 0 ≤ a.2 ∧ a.2 ≤ 31 by omega)]; rfl
          · rw [decide_eq_false h4, decide_eq_false (show ¬ (0 ≤ a.2 ∧ a.2 ≤ 31) by omega), Bool.and_false]
        rw [e]
        simp only [h1, h2, h3, decide_true, cond_true]
      · rw [decide_eq_false (show ¬ (0 ≤ a.2 ∧ a.2 ≤ 31) by omega), Bool.and_false]
        simp [h1, h2, h3]
    · rw [decide_eq_false (show ¬ (0 ≤ a.1 ∧ a.1 ≤ 255) by omega), Bool.false_and]
      simp [h1, h2]
  · rw [decide_eq_false (show ¬ (0 ≤ a.1 ∧ a.1 ≤ 255) by omega), Bool.false_and]
    simp [h1]

def Need (u : List (Int × Int)) (l : List Int) : Prop := l.Pairwise (· < ·) ∧ (∀ x, x ∈ l ↔ ∃ p, p < u.length ∧ isPl (at_ u p) = true ∧ (at_ u p).1 = x)

theorem m36_ok (u : List (Int × Int)) (hu : u.length ≤ 1000000) : Ok (m36 (u, ())) (fun r => Need u r.1 ∧ r.1.length ≤ 1000000) := by
  unfold m36
  refine Ok.bind (S := fun l => l.length ≤ u.length ∧ ∀ x, x ∈ l ↔ ∃ p, p < u.length ∧ isPl (at_ u p) = true ∧ (at_ u p).1 = x)
    (Ok.loop u.length (fun i x => x.1 = (i : Int) ∧ x.2.length ≤ i ∧ ∀ v, v ∈ x.2 ↔ ∃ p, p < i ∧ isPl (at_ u p) = true ∧ (at_ u p).1 = v) ⟨rfl, by simp, by simp⟩ ?_) fun l hl => ?_
  · rintro i ⟨x1, l⟩ hi ⟨hx, hl, hm⟩
    simp only at hx hl hm
    subst hx
    refine Ok.cond (fun hc => ?_) (fun hc => Ok.inr ?_)
    · have hi' : i < u.length := by simp only at hc; omega
      simp only [Int.toNat_natCast, m50_eq, Option.bind_some, wrap64 (n := (i : Int) + 1) (by omega) (by omega)] at hc ⊢
      refine Ok.gd (by omega) (Ok.gd (by omega) ?_)
      refine Ok.condb (fun hp => ?_) (fun hp => Ok.inl ⟨hi', by simp, by simp only; omega, fun v => (hm v).trans ?_⟩)
      · refine Ok.gd (by simp; omega) (Ok.gd (by simp; omega) (Ok.inl ⟨hi', by simp, by simp; omega, fun v => ?_⟩))
        rw [List.mem_append, hm v, List.mem_singleton]
        constructor
        · rintro (⟨p, h1, h2⟩ | e)
          · exact ⟨p, by omega, h2⟩
          · exact ⟨i, by omega, hp, e.symm⟩
        · rintro ⟨p, h1, h2, h3⟩
          by_cases e : p = i
          · subst e; exact .inr h3.symm
          · exact .inl ⟨p, by omega, h2, h3⟩
      · constructor
        · rintro ⟨p, h1, h2⟩; exact ⟨p, by omega, h2⟩
        · rintro ⟨p, h1, h2, h3⟩
          by_cases e : p = i
          · subst e; rw [show isPl (at_ u p) = false from hp] at h2; simp at h2
          · exact ⟨p, by omega, h2, h3⟩
    · have e : i = u.length := by simp only at hc; omega
      subst e
      exact ⟨hl, hm⟩
  · obtain ⟨hl1, hl2⟩ := hl
    obtain ⟨c1, c2, c3⟩ := compactI_ok l
    refine Ok.bind (Ok.gd (by omega) (Ok.some (T := fun y => y = sortI l) rfl)) fun y2 h2 => ?_
    subst h2
    have := sortI_len l
    refine Ok.bind (Ok.gd (by omega) (Ok.some (T := fun y => y = compactI (sortI l)) rfl)) fun y3 h3 => ?_
    subst h3
    generalize compactI (sortI l) = z at c1 c2 c3
    refine Ok.bind (S := fun y => y = z) (Ok.loop z.length (fun i x => x.1 = (i : Int) ∧ x.2 = z.take i) ⟨rfl, by simp⟩ ?_) fun y hy => ?_
    · rintro i ⟨x1, l2⟩ hi ⟨hx, rfl⟩
      simp only at hx
      subst hx
      refine Ok.cond (fun hc => ?_) (fun hc => Ok.inr ?_)
      · have hi' : i < z.length := by simp only at hc; omega
        simp only [Int.toNat_natCast, wrap64 (n := (i : Int) + 1) (by omega) (by omega)] at hc ⊢
        refine Ok.gd (by omega) (Ok.gd (by omega) (Ok.gd (by omega) (Ok.gd (by simp; omega) (Ok.gd (by simp; omega) (Ok.inl ⟨hi', by simp, ?_⟩)))))
        simp only
        rw [take_snoc z i hi' 0]
      · simp only at hc
        rw [List.take_of_length_le (by omega)]
    · subst hy
      exact Ok.some ⟨⟨c1, fun x => (c2 x).trans (hl2 x)⟩, by simp only; omega⟩

theorem m37_ok (u : List (Int × Int)) (hu : u.length ≤ 1000000) : Ok (m37 (u, ())) (fun r => Need u r.1 ∧ r.1.length ≤ 256) := by
  unfold m37
  refine Ok.gd (by omega) ?_
  refine Ok.bind (S := fun s => s.length = 256 ∧ ∀ v : Nat, v < 256 → (s.getD v false = true ↔ ∃ p, p < u.length ∧ isPl (at_ u p) = true ∧ (at_ u p).1 = (v : Int)))
    (Ok.loop u.length (fun i x => x.1 = (i : Int) ∧ x.2.length = 256 ∧ ∀ v : Nat, v < 256 → (x.2.getD v false = true ↔ ∃ p, p < i ∧ isPl (at_ u p) = true ∧ (at_ u p).1 = (v : Int))) ⟨rfl, by simp, fun v hv => ⟨fun h => by rw [getD_rep] at h; simp at h, fun ⟨p, hp, _⟩ => by omega⟩⟩ ?_) fun s hs => ?_
  · rintro i ⟨x1, s⟩ hi ⟨hx, hl, hm⟩
    simp only at hx hl hm
    subst hx
    refine Ok.cond (fun hc => ?_) (fun hc => Ok.inr ?_)
    · have hi' : i < u.length := by simp only at hc; omega
      simp only [Int.toNat_natCast, m63_eq, Option.bind_some, wrap64 (n := (i : Int) + 1) (by omega) (by omega)] at hc ⊢
      refine Ok.gd (by omega) (Ok.gd (by omega) ?_)
      refine Ok.condb (fun hp => ?_) (fun hp => Ok.inl ⟨hi', by simp, hl, fun v hv => (hm v hv).trans ?_⟩)
      · have hb : 0 ≤ (u.getD i (0, 0)).1 ∧ (u.getD i (0, 0)).1 ≤ 255 := by
          have hp2 := hp
          simp only [isPl, Bool.and_eq_true, decide_eq_true_eq] at hp2
          exact hp2.1
        obtain ⟨n, hn⟩ : ∃ n : Nat, (u.getD i (0, 0)).1 = n := ⟨(u.getD i (0, 0)).1.toNat, by omega⟩
        rw [hn] at hb
        simp only [hn, Int.toNat_natCast]
        refine Ok.gd (by omega) (Ok.gd (by omega) (Ok.gd (by omega) (Ok.gd (by omega) (Ok.gd (by omega) (Ok.inl ⟨hi', by simp, by simp [hl], fun v hv => ?_⟩)))))
        simp only
        rw [getD_set _ _ _ _ _ (by omega)]
        by_cases e : n = v
        · subst e
          simp only [if_true, true_iff]
          exact ⟨i, by omega, hp, hn⟩
        · rw [if_neg e, hm v hv]
          constructor
          · rintro ⟨p, h1, h2⟩; exact ⟨p, by omega, h2⟩
          · rintro ⟨p, h1, h2, h3⟩
            by_cases ep : p = i
            · subst ep
              have : (at_ u p).1 = n := hn
              omega
            · exact ⟨p, by omega, h2, h3⟩
      · constructor
        · rintro ⟨p, h1, h2⟩; exact ⟨p, by omega, h2⟩
        · rintro ⟨p, h1, h2, h3⟩
          by_cases e : p = i
          · subst e; rw [show isPl (at_ u p) = false from hp] at h2; simp at h2
          · exact ⟨p, by omega, h2, h3⟩
    · have e : i = u.length := by simp only at hc; omega
      subst e
      exact ⟨hl, hm⟩
  · obtain ⟨hl, hm⟩ := hs
    refine Ok.bind (S := fun z => z.Pairwise (· < ·) ∧ z.length ≤ 256 ∧ ∀ x, x ∈ z ↔ ∃ v : Nat, v < 256 ∧ s.getD v false = true ∧ (v : Int) = x)
      (Ok.loop s.length (fun i x => x.2 = (i : Int) ∧ x.1.length ≤ i ∧ x.1.Pairwise (· < ·) ∧ ∀ y, y ∈ x.1 ↔ ∃ v : Nat, v < i ∧ s.getD v false = true ∧ (v : Int) = y) ⟨rfl, by simp, by simp, by simp⟩ ?_) fun z hz => ?_
    · rintro i ⟨z, x2⟩ hi ⟨hx, hzl, hz1, hz2⟩
      simp only at hx hzl hz1 hz2
      subst hx
      refine Ok.cond (fun hc => ?_) (fun hc => Ok.inr ?_)
      · have hi' : i < s.length := by simp only at hc; omega
        simp only [Int.toNat_natCast, wrap64 (n := (i : Int) + 1) (by omega) (by omega)] at hc ⊢
        refine Ok.gd (by omega) (Ok.gd (by omega) (Ok.gd (by omega) ?_))
        refine Ok.condb (fun hp => ?_) (fun hp => Ok.inl ⟨hi', by simp, by simp only; omega, hz1, fun y => (hz2 y).trans ?_⟩)
        · refine Ok.gd (by simp; omega) (Ok.gd (by simp; omega) (Ok.inl ⟨hi', by simp, by simp; omega, ?_, fun y => ?_⟩))
          · simp only
            rw [List.pairwise_append]
            refine ⟨hz1, by simp, fun a ha b hb => ?_⟩
            simp only [List.mem_singleton] at hb
            obtain ⟨v, hv, _, e⟩ := (hz2 a).1 ha
            omega
          · rw [List.mem_append, hz2 y, List.mem_singleton]
            constructor
            · rintro (⟨v, h1, h2⟩ | e)
              · exact ⟨v, by omega, h2⟩
              · exact ⟨i, by omega, hp, e.symm⟩
            · rintro ⟨v, h1, h2, h3⟩
              by_cases e : v = i
              · subst e; exact .inr h3.symm
              · exact .inl ⟨v, by omega, h2, h3⟩
        · constructor
          · rintro ⟨v, h1, h2⟩; exact ⟨v, by omega, h2⟩
          · rintro ⟨v, h1, h2, h3⟩
            by_cases e : v = i
            · subst e; rw [hp] at h2; simp at h2
            · exact ⟨v, by omega, h2, h3⟩
      · have e : i = 256 := by simp only at hc; omega
        subst e
        exact ⟨hz1, hzl, hz2⟩
    · obtain ⟨h1, h2, h3⟩ := hz
      refine Ok.some ⟨⟨h1, fun x => (h3 x).trans ?_⟩, h2⟩
      constructor
      · rintro ⟨v, hv, hs, e⟩
        obtain ⟨p, q1, q2, q3⟩ := (hm v hv).1 hs
        exact ⟨p, q1, q2, q3.trans e⟩
      · rintro ⟨p, q1, q2, q3⟩
        have hb := q2
        simp only [isPl, Bool.and_eq_true, decide_eq_true_eq] at hb
        refine ⟨x.toNat, by omega, (hm _ (by omega)).2 ⟨p, q1, q2, by omega⟩, by omega⟩
end Go.Proofs.Ytefekolpfklhdaa
end

section
/- Which blocks are settled: the two readings. -/
namespace Go.Proofs.Ytefekolpfklhdaa
open Go Go.Proofs.AM

theorem m32_ok' (Q N b : Nat) (u : List (Int × Int)) (hQ : 4 ≤ Q ∧ Q ≤ 32) (hN : N ≤ 256) (hb : b < N) (hu : u.length = N * Q) :
    Ok (m32 ((Q : Int), (u, ((b : Int), ())))) (fun r => (r.2.1 = true → Good Q b u r.1) ∧ (r.2.1 = false → r.1 = 0 ∧ ∀ ph, ¬ Good Q b u ph)) := by
  obtain ⟨B, hB⟩ : ∃ B, b * Q = B := ⟨_, rfl⟩
  have hBN : B + Q ≤ u.length := by
    have : (b + 1) * Q ≤ N * Q := Nat.mul_le_mul_right Q hb
    rw [Nat.add_mul, hB] at this; omega
  have hlen : u.length ≤ 8192 := by
    have : N * Q ≤ 256 * 32 := Nat.mul_le_mul hN hQ.2
    omega
  have w0 : (b : Int) * (Q : Int) = (B : Int) := by rw [← hB]; simp
  have w0' : ((b : Int) + 1) * (Q : Int) = ((B + Q : Nat) : Int) := by rw [Int.add_mul, w0]; simp
  have w1 : IntKind.wrap .i64 ((b : Int) * (Q : Int)) = (B : Int) := by rw [w0, wrap64 (by omega) (by omega)]
  have w2 : IntKind.wrap .i64 (IntKind.wrap .i64 ((b : Int) + 1) * (Q : Int)) = ((B + Q : Nat) : Int) := by rw [wrap64 (n := (b : Int) + 1) (by omega) (by omega), w0', wrap64 (by omega) (by omega)]
  have hmod : Int.tmod (((List.length u) : Nat) : Int) (Q : Int) = 0 := by rw [hu]; simp
  have hdiv : Int.tdiv (((List.length u) : Nat) : Int) (Q : Int) = (N : Int) := by
    rw [hu, Int.natCast_mul, Int.mul_tdiv_cancel _ (by omega)]
  have hol : ((u.drop B).take Q).length = Q := own_len hBN
  unfold m32
  refine Ok.bind (Ok.of (m48_eq _ _ _) rfl) fun y1 h1 => ?_
  subst h1
  simp only [w1, w2, hmod, hdiv, Int.toNat_natCast, Nat.add_sub_cancel_left, hol]
  refine Ok.condb (fun h => ?_) (fun _ => ?_)
  · simp at h; omega
  refine Ok.ite (fun h => by omega) (fun _ => ?_)
  refine Ok.ncond (fun h => absurd trivial h) (fun _ => ?_)
  refine Ok.ite (fun h => by omega) (fun _ => ?_)
  refine Ok.bind (Ok.of (m48_eq _ _ _) rfl) fun y2 h2 => ?_
  subst h2
  rw [wrap64 (n := (N : Int)) (by omega) (by omega), wrap64 (n := (N : Int) - 1) (by omega) (by omega)]
  refine Ok.condb (fun h => ?_) (fun _ => ?_)
  · simp at h; omega
  refine Ok.gd (by omega) (Ok.gd (by omega) (Ok.gd (by omega) ?_))
  -- the block's own pages
  refine Ok.bind (S := fun e => match e with
      | .inl v => (v.2 = true ↔ ∃ o, o < Q ∧ isPl (at_ u (B + o)) = true) ∧ ∀ o : Nat, o < Q → isPl (at_ u (B + o)) = true → at_ u (B + o) = (v.1, (o : Int))
      | .inr v => (v.2 = false ∧ v.1 = 0) ∧ ∀ ph, ¬ Good Q b u ph)
    (Ok.loop Q (fun i x => x.2.2 = (i : Int) ∧ (x.2.1 = true ↔ ∃ o, o < i ∧ isPl (at_ u (B + o)) = true) ∧ ∀ o : Nat, o < i → isPl (at_ u (B + o)) = true → at_ u (B + o) = (x.1, (o : Int))) ⟨rfl, by simp, fun o ho => by omega⟩ ?_) fun y3 hy3 => ?_
  · rintro i ⟨x1, x2, x3⟩ hi ⟨hx, hs, ha⟩
    simp only at hx hs ha
    subst hx
    refine Ok.cond (fun hc => ?_) (fun hc => Ok.inr ?_)
    · have hi' : i < Q := by simp only at hc; omega
      simp only [Int.toNat_natCast, own_get hi', m50_eq, wrap64 (n := (i : Int) + 1) (by omega) (by omega)]
      refine Ok.gd (by omega) (Ok.gd (by omega) ?_)
      refine Ok.bind (Ok.of rfl rfl) fun y4 h4 => ?_
      subst h4
      have step : isPl (at_ u (B + i)) = true → at_ u (B + i) = ((at_ u (B + i)).1, (i : Int)) → (x2 = true → (at_ u (B + i)).1 = x1) → Ok (some (Sum.inl ((at_ u (B + i)).1, (true, ((i : Int) + 1))))) (fun s : (Int × (Bool × Int)) ⊕ ((Int × Bool) ⊕ (Int × Bool)) => s.elim (fun y => i < Q ∧ (y.2.2 = ((i + 1 : Nat) : Int) ∧ (y.2.1 = true ↔ ∃ o, o < i + 1 ∧ isPl (at_ u (B + o)) = true) ∧ ∀ o : Nat, o < i + 1 → isPl (at_ u (B + o)) = true → at_ u (B + o) = (y.1, (o : Int)))) (fun e => match e with
          | .inl v => (v.2 = true ↔ ∃ o, o < Q ∧ isPl (at_ u (B + o)) = true) ∧ ∀ o : Nat, o < Q → isPl (at_ u (B + o)) = true → at_ u (B + o) = (v.1, (o : Int))
          | .inr v => (v.2 = false ∧ v.1 = 0) ∧ ∀ ph, ¬ Good Q b u ph)) := by
        intro hp he hsame
        refine Ok.inl ⟨hi', by simp, ⟨fun _ => ⟨i, by omega, hp⟩, fun _ => rfl⟩, fun o ho hpo => ?_⟩
        by_cases e : o = i
        · subst e; exact he
        · have h1 := hs.2 ⟨o, by omega, hpo⟩
          rw [ha o (by omega) hpo, hsame h1]
      refine Ok.condb (fun hp => ?_) (fun hp => ?_)
      · have hp : isPl (at_ u (B + i)) = false := by simpa using hp
        refine Ok.inl ⟨hi', by simp, ?_, fun o ho hpo => ?_⟩
        · simp only
          rw [hs]
          constructor
          · rintro ⟨o, h1, h2⟩; exact ⟨o, by omega, h2⟩
          · rintro ⟨o, h1, h2⟩
            by_cases e : o = i
            · subst e; rw [hp] at h2; simp at h2
            · exact ⟨o, by omega, h2⟩
        · by_cases e : o = i
          · subst e; rw [hp] at hpo; simp at hpo
          · exact ha o (by omega) hpo
      · have hp : isPl (at_ u (B + i)) = true := by simpa using hp
        have bad : (at_ u (B + i)).2 ≠ (i : Int) → ∀ ph, ¬ Good Q b u ph := fun h ph hg => by
          have := hg.all i hi' (by rw [hB]; exact hp)
          rw [hB] at this
          exact h (by rw [this])
        refine Ok.condb (fun hx2 => ?_) (fun hx2 => ?_)
        · refine Ok.condb (fun hne => Ok.inr ⟨⟨rfl, rfl⟩, fun ph hg => ?_⟩) (fun heq => ?_)
          · obtain ⟨o, ho, hpo⟩ := hs.1 hx2
            have h1 := ha o ho hpo
            have h2 := hg.all o (by omega) (by rw [hB]; exact hpo)
            have h3 := hg.all i hi' (by rw [hB]; exact hp)
            rw [hB] at h2 h3
            rw [h1] at h2
            have e1 : x1 = ph := congrArg Prod.fst h2
            rw [h3] at hne
            simp [e1] at hne
          · have heq : (at_ u (B + i)).1 = x1 ∧ (at_ u (B + i)).2 = (i : Int) := by simpa [at_] using heq
            refine Ok.ncond (fun h => absurd heq.2 h) (fun _ => ?_)
            exact step hp (by rw [← heq.2]) (fun _ => heq.1)
        · refine Ok.ncond (fun h => Ok.inr ⟨⟨rfl, rfl⟩, bad h⟩) (fun h => ?_)
          exact step hp (by rw [← h]) (fun h' => by rw [hx2] at h'; simp at h')
    · have e : i = Q := by simp only at hc; omega
      subst e
      exact ⟨hs, ha⟩
  refine Ok.elim (fun v e => ?_) (fun v e => ?_)
  rotate_left
  · subst e
    exact Ok.some ⟨fun h => by rw [hy3.1.1] at h; simp at h, fun _ => ⟨hy3.1.2, hy3.2⟩⟩
  subst e
  obtain ⟨hs, ha⟩ := hy3
  refine Ok.condb (fun h => Ok.some ⟨fun h' => by simp at h', fun _ => ⟨rfl, fun ph hg => ?_⟩⟩) (fun h => ?_)
  · have hv : v.2 = false := by simpa using h
    obtain ⟨o, ho, hpo⟩ := hg.some
    rw [hB] at hpo
    have := hs.2 ⟨o, ho, hpo⟩
    rw [hv] at this; simp at this
  have hv : v.2 = true := by simpa using h
  have huniq : ∀ ph, Good Q b u ph → ph = v.1 := fun ph hg => by
    obtain ⟨o, ho, hpo⟩ := hs.1 hv
    have h1 := ha o ho hpo
    have h2 := hg.all o ho (by rw [hB]; exact hpo)
    rw [hB, h1] at h2
    exact (congrArg Prod.fst h2).symm
  refine Ok.bind (S := fun e => match e with
      | .inl _ => ∀ p, p < u.length → p / Q ≠ b → isPl (at_ u p) = true → (at_ u p).1 ≠ v.1
      | .inr v => (v.2 = false ∧ v.1 = 0) ∧ ∀ ph, ¬ Good Q b u ph)
    (Ok.loop u.length (fun i x => x = (i : Int) ∧ ∀ p, p < i → p / Q ≠ b → isPl (at_ u p) = true → (at_ u p).1 ≠ v.1) ⟨rfl, fun o ho => by omega⟩ ?_) fun y5 hy5 => ?_
  · rintro i x hi ⟨rfl, hg⟩
    refine Ok.cond (fun hc => ?_) (fun hc => Ok.inr (fun p hp => hg p (by omega)))
    simp only [Int.toNat_natCast] at hc ⊢
    obtain ⟨m, hmv⟩ : ∃ m, i / Q = m := ⟨_, rfl⟩
    have hmi : m ≤ i := by rw [← hmv]; exact Nat.div_le_self _ _
    have e1 : Int.tdiv (i : Int) (Q : Int) = (m : Int) := by rw [Int.tdiv_eq_ediv_of_nonneg (by omega), ← hmv]; rfl
    simp only [wrap64 (n := (i : Int) + 1) (by omega) (by omega), e1, wrap64 (n := (m : Int)) (by omega) (by omega), m50_eq]
    have next : (m ≠ b → isPl (at_ u i) = true → (at_ u i).1 ≠ v.1) → Ok (some (Sum.inl ((i : Int) + 1))) (fun s : Int ⊕ (Unit ⊕ (Int × Bool)) => s.elim (fun y => i < u.length ∧ (y = ((i + 1 : Nat) : Int) ∧ ∀ p, p < i + 1 → p / Q ≠ b → isPl (at_ u p) = true → (at_ u p).1 ≠ v.1)) (fun e => match e with
      | .inl _ => ∀ p, p < u.length → p / Q ≠ b → isPl (at_ u p) = true → (at_ u p).1 ≠ v.1
      | .inr v => (v.2 = false ∧ v.1 = 0) ∧ ∀ ph, ¬ Good Q b u ph)) := fun h => by
      refine Ok.inl ⟨by omega, by omega, fun p hp h1 h2 => ?_⟩
      by_cases e : p = i
      · subst e; exact h (by rw [← hmv]; exact h1) h2
      · exact hg p (by omega) h1 h2
    refine Ok.gd (by omega) (Ok.gd (by omega) (Ok.ite (fun h => by omega) fun _ => ?_))
    refine Ok.ncond (fun hne => ?_) (fun he => next (fun h => absurd (by omega) h))
    refine Ok.bind (Ok.of rfl rfl) fun y6 h6 => ?_
    subst h6
    refine Ok.condb (fun hp => ?_) (fun hp => next (fun _ h => by simp only at hp; rw [hp] at h; simp at h))
    refine Ok.cond (fun hq => Ok.inr ⟨⟨rfl, rfl⟩, fun ph hgd => ?_⟩) (fun hq => next (fun _ _ => hq))
    have := huniq ph hgd
    subst this
    exact hgd.alone i (by omega) (by rw [hmv]; omega) hp hq
  refine Ok.elim (fun w e => ?_) (fun w e => ?_)
  · subst e
    refine Ok.some ⟨fun _ => ⟨?_, fun o ho hp => ?_, hy5⟩, fun h => by simp at h⟩
    · obtain ⟨o, ho, hpo⟩ := hs.1 hv
      exact ⟨o, ho, by rw [hB]; exact hpo⟩
    · rw [hB] at hp ⊢; exact ha o ho hp
  · subst e
    exact Ok.some ⟨fun h => by rw [hy5.1.1] at h; simp at h, fun _ => ⟨hy5.1.2, hy5.2⟩⟩

theorem m33_ok' (Q N b : Nat) (u : List (Int × Int)) (hQ : 4 ≤ Q ∧ Q ≤ 32) (hN : N ≤ 256) (hb : b < N) (hu : u.length = N * Q) :
    Ok (m33 ((Q : Int), (u, ((b : Int), ())))) (fun r => (r.2.1 = true → Good Q b u r.1) ∧ (r.2.1 = false → r.1 = 0 ∧ ∀ ph, ¬ Good Q b u ph)) := by
  obtain ⟨B, hB⟩ : ∃ B, b * Q = B := ⟨_, rfl⟩
  have hBN : B + Q ≤ u.length := by
    have : (b + 1) * Q ≤ N * Q := Nat.mul_le_mul_right Q hb
    rw [Nat.add_mul, hB] at this; omega
  have hlen : u.length ≤ 8192 := by
    have : N * Q ≤ 256 * 32 := Nat.mul_le_mul hN hQ.2
    omega
  have w0 : (b : Int) * (Q : Int) = (B : Int) := by rw [← hB]; simp
  have w1 : IntKind.wrap .i64 ((b : Int) * (Q : Int)) = (B : Int) := by rw [w0, wrap64 (by omega) (by omega)]
  have hmod : Int.tmod (((List.length u) : Nat) : Int) (Q : Int) = 0 := by rw [hu]; simp
  have hdiv : Int.tdiv (((List.length u) : Nat) : Int) (Q : Int) = (N : Int) := by
    rw [hu, Int.natCast_mul, Int.mul_tdiv_cancel _ (by omega)]
  unfold m33
  simp only [w1, hmod, hdiv, wrap64 (n := (N : Int)) (by omega) (by omega)]
  refine Ok.cond (fun h => by omega) (fun _ => ?_)
  refine Ok.cond (fun h => by omega) (fun _ => ?_)
  refine Ok.ite (fun h => by omega) (fun _ => ?_)
  refine Ok.ncond (fun h => absurd trivial h) (fun _ => ?_)
  refine Ok.cond (fun h => by omega) (fun _ => ?_)
  refine Ok.ite (fun h => by omega) (fun _ => ?_)
  refine Ok.cond (fun h => by omega) (fun _ => ?_)
  refine Ok.bind (S := fun e => match e with
      | .inl v => (0 ≤ v ↔ ∃ o, o < Q ∧ isPl (at_ u (B + o)) = true) ∧ ∀ o : Nat, o < Q → isPl (at_ u (B + o)) = true → at_ u (B + o) = (v, (o : Int))
      | .inr v => (v.2 = false ∧ v.1 = 0) ∧ ∀ ph, ¬ Good Q b u ph)
    (Ok.loop Q (fun i x => x.2 = (i : Int) ∧ (0 ≤ x.1 ↔ ∃ o, o < i ∧ isPl (at_ u (B + o)) = true) ∧ ∀ o : Nat, o < i → isPl (at_ u (B + o)) = true → at_ u (B + o) = (x.1, (o : Int))) ⟨rfl, ⟨fun h => by simp at h, fun ⟨o, h, _⟩ => by omega⟩, fun o ho => by omega⟩ ?_) fun y3 hy3 => ?_
  · rintro i ⟨x1, x3⟩ hi ⟨hx, hs, ha⟩
    simp only at hx hs ha
    subst hx
    refine Ok.cond (fun hc => ?_) (fun hc => Ok.inr ?_)
    · have hi' : i < Q := by simp only at hc; omega
      have w4 : IntKind.wrap .i64 ((B : Int) + (i : Int)) = ((B + i : Nat) : Int) := by rw [wrap64 (by omega) (by omega)]; simp
      simp only [w4, Int.toNat_natCast, m63_eq, Option.bind_some, wrap64 (n := (i : Int) + 1) (by omega) (by omega)]
      refine Ok.gd (by omega) (Ok.gd (by omega) ?_)
      have step : isPl (at_ u (B + i)) = true → at_ u (B + i) = ((at_ u (B + i)).1, (i : Int)) → (0 ≤ x1 → (at_ u (B + i)).1 = x1) → Ok (some (Sum.inl ((at_ u (B + i)).1, ((i : Int) + 1)))) (fun s : (Int × Int) ⊕ (Int ⊕ (Int × Bool)) => s.elim (fun y => i < Q ∧ (y.2 = ((i + 1 : Nat) : Int) ∧ (0 ≤ y.1 ↔ ∃ o, o < i + 1 ∧ isPl (at_ u (B + o)) = true) ∧ ∀ o : Nat, o < i + 1 → isPl (at_ u (B + o)) = true → at_ u (B + o) = (y.1, (o : Int)))) (fun e => match e with
          | .inl v => (0 ≤ v ↔ ∃ o, o < Q ∧ isPl (at_ u (B + o)) = true) ∧ ∀ o : Nat, o < Q → isPl (at_ u (B + o)) = true → at_ u (B + o) = (v, (o : Int))
          | .inr v => (v.2 = false ∧ v.1 = 0) ∧ ∀ ph, ¬ Good Q b u ph)) := by
        intro hp he hsame
        have hpos : 0 ≤ (at_ u (B + i)).1 := by
          have hp2 := hp
          simp only [isPl, Bool.and_eq_true, decide_eq_true_eq] at hp2; exact hp2.1.1
        refine Ok.inl ⟨hi', by simp, ⟨fun _ => ⟨i, by omega, hp⟩, fun _ => hpos⟩, fun o ho hpo => ?_⟩
        by_cases e : o = i
        · subst e; exact he
        · have h1 := hs.2 ⟨o, by omega, hpo⟩
          rw [ha o (by omega) hpo, hsame h1]
      refine Ok.condb (fun hp => ?_) (fun hp => ?_)
      · have hp : isPl (at_ u (B + i)) = false := by simpa using hp
        refine Ok.inl ⟨hi', by simp, ?_, fun o ho hpo => ?_⟩
        · simp only
          rw [hs]
          constructor
          · rintro ⟨o, h1, h2⟩; exact ⟨o, by omega, h2⟩
          · rintro ⟨o, h1, h2⟩
            by_cases e : o = i
            · subst e; rw [hp] at h2; simp at h2
            · exact ⟨o, by omega, h2⟩
        · by_cases e : o = i
          · subst e; rw [hp] at hpo; simp at hpo
          · exact ha o (by omega) hpo
      · have hp : isPl (at_ u (B + i)) = true := by simpa using hp
        have bad : (at_ u (B + i)).2 ≠ (i : Int) → ∀ ph, ¬ Good Q b u ph := fun h ph hg => by
          have := hg.all i hi' (by rw [hB]; exact hp)
          rw [hB] at this
          exact h (by rw [this])
        refine Ok.ncond (fun h => Ok.inr ⟨⟨rfl, rfl⟩, bad h⟩) (fun h2 => ?_)
        refine Ok.cond (fun hx1 => ?_) (fun hx1 => ?_)
        · refine Ok.ncond (fun hne => Ok.inr ⟨⟨rfl, rfl⟩, fun ph hg => ?_⟩) (fun heq => ?_)
          · obtain ⟨o, ho, hpo⟩ := hs.1 hx1
            have h1 := ha o ho hpo
            have h3 := hg.all o (by omega) (by rw [hB]; exact hpo)
            have h4 := hg.all i hi' (by rw [hB]; exact hp)
            rw [hB] at h3 h4
            rw [h1] at h3
            have e1 : x1 = ph := congrArg Prod.fst h3
            exact hne (by rw [e1]; exact congrArg Prod.fst h4)
          · exact step hp (by rw [← h2]) (fun _ => heq)
        · exact step hp (by rw [← h2]) (fun h' => absurd h' hx1)
    · have e : i = Q := by simp only at hc; omega
      subst e
      exact ⟨hs, ha⟩
  refine Ok.elim (fun v e => ?_) (fun v e => ?_)
  rotate_left
  · subst e
    exact Ok.some ⟨fun h => by rw [hy3.1.1] at h; simp at h, fun _ => ⟨hy3.1.2, hy3.2⟩⟩
  subst e
  obtain ⟨hs, ha⟩ := hy3
  refine Ok.cond (fun h => Ok.some ⟨fun h' => by simp at h', fun _ => ⟨rfl, fun ph hg => ?_⟩⟩) (fun h => ?_)
  · obtain ⟨o, ho, hpo⟩ := hg.some
    rw [hB] at hpo
    have := hs.2 ⟨o, ho, hpo⟩
    omega
  have hv : 0 ≤ v := by omega
  have huniq : ∀ ph, Good Q b u ph → ph = v := fun ph hg => by
    obtain ⟨o, ho, hpo⟩ := hs.1 hv
    have h1 := ha o ho hpo
    have h2 := hg.all o ho (by rw [hB]; exact hpo)
    rw [hB, h1] at h2
    exact (congrArg Prod.fst h2).symm
  refine Ok.bind (S := fun e => match e with
      | .inl _ => ∀ p, p < u.length → p / Q ≠ b → isPl (at_ u p) = true → (at_ u p).1 ≠ v
      | .inr v => (v.2 = false ∧ v.1 = 0) ∧ ∀ ph, ¬ Good Q b u ph)
    (Ok.loop u.length (fun i x => x = (i : Int) ∧ ∀ p, p < i → p / Q ≠ b → isPl (at_ u p) = true → (at_ u p).1 ≠ v) ⟨rfl, fun o ho => by omega⟩ ?_) fun y5 hy5 => ?_
  · rintro i x hi ⟨rfl, hg⟩
    refine Ok.cond (fun hc => ?_) (fun hc => Ok.inr (fun p hp => hg p (by omega)))
    simp only [Int.toNat_natCast] at hc ⊢
    obtain ⟨m, hmv⟩ : ∃ m, i / Q = m := ⟨_, rfl⟩
    have hmi : m ≤ i := by rw [← hmv]; exact Nat.div_le_self _ _
    have e1 : Int.tdiv (i : Int) (Q : Int) = (m : Int) := by rw [Int.tdiv_eq_ediv_of_nonneg (by omega), ← hmv]; rfl
    simp only [wrap64 (n := (i : Int) + 1) (by omega) (by omega), e1, wrap64 (n := (m : Int)) (by omega) (by omega), m63_eq, Option.bind_some]
    have next : (m ≠ b → isPl (at_ u i) = true → (at_ u i).1 ≠ v) → Ok (some (Sum.inl ((i : Int) + 1))) (fun s : Int ⊕ (Unit ⊕ (Int × Bool)) => s.elim (fun y => i < u.length ∧ (y = ((i + 1 : Nat) : Int) ∧ ∀ p, p < i + 1 → p / Q ≠ b → isPl (at_ u p) = true → (at_ u p).1 ≠ v)) (fun e => match e with
      | .inl _ => ∀ p, p < u.length → p / Q ≠ b → isPl (at_ u p) = true → (at_ u p).1 ≠ v
      | .inr v => (v.2 = false ∧ v.1 = 0) ∧ ∀ ph, ¬ Good Q b u ph)) := fun h => by
      refine Ok.inl ⟨by omega, by omega, fun p hp h1 h2 => ?_⟩
      by_cases e : p = i
      · subst e; exact h (by rw [← hmv]; exact h1) h2
      · exact hg p (by omega) h1 h2
    refine Ok.ite (fun h => by omega) fun _ => ?_
    refine Ok.ncond (fun hne => ?_) (fun he => next (fun h => absurd (by omega) h))
    refine Ok.gd (by omega) (Ok.gd (by omega) ?_)
    refine Ok.condb (fun hp => ?_) (fun hp => next (fun _ h => by rw [show isPl (at_ u i) = false from hp] at h; simp at h))
    refine Ok.gd (by omega) (Ok.gd (by omega) ?_)
    refine Ok.cond (fun hq => Ok.inr ⟨⟨rfl, rfl⟩, fun ph hgd => ?_⟩) (fun hq => next (fun _ _ => hq))
    have := huniq ph hgd
    subst this
    exact hgd.alone i (by omega) (by rw [hmv]; omega) hp hq
  refine Ok.elim (fun w e => ?_) (fun w e => ?_)
  · subst e
    refine Ok.some ⟨fun _ => ⟨?_, fun o ho hp => ?_, hy5⟩, fun h => by simp at h⟩
    · obtain ⟨o, ho, hpo⟩ := hs.1 hv
      exact ⟨o, ho, by rw [hB]; exact hpo⟩
    · rw [hB] at hp ⊢; exact ha o ho hp
  · subst e
    exact Ok.some ⟨fun h => by rw [hy5.1.1] at h; simp at h, fun _ => ⟨hy5.1.2, hy5.2⟩⟩
end Go.Proofs.Ytefekolpfklhdaa
end
