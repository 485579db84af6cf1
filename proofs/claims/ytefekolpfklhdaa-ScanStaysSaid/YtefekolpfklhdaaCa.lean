/- What the functions of this claim compute, each shown by the kernel, and what that comes to, with no program in sight. No condition. -/
import Derived.Test.YtefekolpfklhdaaProg
import Derived.Test.YtefekolpfklhdaaAmc
import Derived.KernelRfl
set_option maxRecDepth 2000
set_option linter.unusedVariables false
set_option linter.unusedSimpArgs false
section
/- What the functions' contracts share. -/
namespace Go.Proofs.Ytefekolpfklhdaa
theorem Try.follows : Try.prog.follows .mixedOrders = true := by kernel_rfl
end Go.Proofs.Ytefekolpfklhdaa
end

section
/- What function 69 (slipway/page.Newer) computes, by the kernel. -/
open Go Go.Proofs.AM
namespace Go.Proofs.Ytefekolpfklhdaa

noncomputable def m69 (x : (Int × (Int × (Int × Int))) × (Int × (Int × (Int × Int))) × Unit) : Option (Bool × Unit) :=
  bif (!(decide (x.1.2.2.1 = x.2.1.2.2.1))) then
    (some ((decide (x.1.2.2.1 > x.2.1.2.2.1)), ()))
  else
    (some ((decide (x.1.2.2.2 < x.2.1.2.2.2)), ()))

noncomputable def r69 : PDen [(true, (.pair (.int .i64) (.pair (.int .i64) (.pair (.int .i64) (.int .i64))))), (true, (.pair (.int .i64) (.pair (.int .i64) (.pair (.int .i64) (.int .i64)))))] → Option (PDen [(false, .bool)]) := fun x => afun Try.prog (envOf [] [] [] []) ⟨[], []⟩ Try.f69 [(true, (.pair (.int .i64) (.pair (.int .i64) (.pair (.int .i64) (.int .i64))))), (true, (.pair (.int .i64) (.pair (.int .i64) (.pair (.int .i64) (.int .i64)))))] [(false, .bool)] false x
theorem r69_eq : r69 = m69 := by kernel_rfl

theorem c69 : CS.Sound Try.prog 69 ⟨[(true, (.pair (.int .i64) (.pair (.int .i64) (.pair (.int .i64) (.int .i64))))), (true, (.pair (.int .i64) (.pair (.int .i64) (.pair (.int .i64) (.int .i64)))))], [(false, .bool)], false, m69⟩ := afun_sound' (envOf_sound (CSs.nil) (HDs.nil) (IDs.nil)) rfl Try.follows (f := 69) (fn := Try.f69) Try.func69 (by kernel_rfl) (by kernel_rfl) r69_eq
end Go.Proofs.Ytefekolpfklhdaa
end

section
/- What function 40 (slipway/scan.before) computes, by the kernel. -/
open Go Go.Proofs.AM
namespace Go.Proofs.Ytefekolpfklhdaa

noncomputable def m40 (x : ((Int × Int) × (Int × (Int × (Int × Int)))) × ((Int × Int) × (Int × (Int × (Int × Int)))) × Unit) : Option (Bool × Unit) :=
  Option.bind (m69 (x.1.2, (x.2.1.2, ()))) fun (y1 : (Bool × Unit)) =>
  bif y1.1 then
    (some (true, ()))
  else
    (Option.bind (m69 (x.2.1.2, (x.1.2, ()))) fun (y2 : (Bool × Unit)) =>
    bif y2.1 then
      (some (false, ()))
    else
      (bif (!(decide (x.1.1.1 = x.2.1.1.1))) then
        (some ((decide (x.1.1.1 < x.2.1.1.1)), ()))
      else
        (some ((decide (x.1.1.2 < x.2.1.1.2)), ()))))

noncomputable def r40 : PDen [(true, (.pair (.pair (.int .i64) (.int .i64)) (.pair (.int .i64) (.pair (.int .i64) (.pair (.int .i64) (.int .i64)))))), (true, (.pair (.pair (.int .i64) (.int .i64)) (.pair (.int .i64) (.pair (.int .i64) (.pair (.int .i64) (.int .i64))))))] → Option (PDen [(false, .bool)]) := fun x => afun Try.prog (envOf [(69, ⟨[(true, (.pair (.int .i64) (.pair (.int .i64) (.pair (.int .i64) (.int .i64))))), (true, (.pair (.int .i64) (.pair (.int .i64) (.pair (.int .i64) (.int .i64)))))], [(false, .bool)], false, m69⟩)] [] [] []) ⟨[], []⟩ Try.f40 [(true, (.pair (.pair (.int .i64) (.int .i64)) (.pair (.int .i64) (.pair (.int .i64) (.pair (.int .i64) (.int .i64)))))), (true, (.pair (.pair (.int .i64) (.int .i64)) (.pair (.int .i64) (.pair (.int .i64) (.pair (.int .i64) (.int .i64))))))] [(false, .bool)] false x
theorem r40_eq : r40 = m40 := by kernel_rfl

theorem c40 : CS.Sound Try.prog 40 ⟨[(true, (.pair (.pair (.int .i64) (.int .i64)) (.pair (.int .i64) (.pair (.int .i64) (.pair (.int .i64) (.int .i64)))))), (true, (.pair (.pair (.int .i64) (.int .i64)) (.pair (.int .i64) (.pair (.int .i64) (.pair (.int .i64) (.int .i64))))))], [(false, .bool)], false, m40⟩ := afun_sound' (envOf_sound (CSs.cons c69 (CSs.nil)) (HDs.nil) (IDs.nil)) rfl Try.follows (f := 40) (fn := Try.f40) Try.func40 (by kernel_rfl) (by kernel_rfl) r40_eq
end Go.Proofs.Ytefekolpfklhdaa
end

section
/- What function 42 (slipway/scan.none) computes, by the kernel. -/
open Go Go.Proofs.AM
namespace Go.Proofs.Ytefekolpfklhdaa

noncomputable def m42 (x : Unit) : Option ((Int × Int) × Unit) :=
  some (((-1 : Int), (0 : Int)), ())

noncomputable def r42 : PDen [] → Option (PDen [(true, (.pair (.int .i64) (.int .i64)))]) := fun x => afun Try.prog (envOf [] [] [] []) ⟨[], []⟩ Try.f42 [] [(true, (.pair (.int .i64) (.int .i64)))] false x
theorem r42_eq : r42 = m42 := by kernel_rfl

theorem c42 : CS.Sound Try.prog 42 ⟨[], [(true, (.pair (.int .i64) (.int .i64)))], false, m42⟩ := afun_sound' (envOf_sound (CSs.nil) (HDs.nil) (IDs.nil)) rfl Try.follows (f := 42) (fn := Try.f42) Try.func42 (by kernel_rfl) (by kernel_rfl) r42_eq
end Go.Proofs.Ytefekolpfklhdaa
end

section
/- What function 46 (slipway/page.Check) computes, by the kernel. -/
open Go Go.Proofs.AM
namespace Go.Proofs.Ytefekolpfklhdaa

noncomputable def m46 (x : (Int × (Int × (Int × Int))) × Unit) : Option (Int × Unit) :=
  bif (!(decide (x.1.1 = (1 : Int)))) then
    (bif (!(decide (x.1.1 = (2 : Int)))) then
      (bif (!(decide (x.1.1 = (3 : Int)))) then
        (some ((30 : Int), ()))
      else
        (bif (decide (x.1.2.2.2 < x.1.2.2.1)) then
          (some ((30 : Int), ()))
        else
          (bif (decide (x.1.2.2.2 > (1152921504606846976 : Int))) then
            (some ((30 : Int), ()))
          else
            (bif (!(decide (x.1.1 = (1 : Int)))) then
              (bif (!(decide (x.1.2.2.2 = x.1.2.2.1))) then
                (some ((30 : Int), ()))
              else
                (bif (decide (x.1.2.1 < (0 : Int))) then
                  (some ((30 : Int), ()))
                else
                  (bif (decide (x.1.2.1 ≥ (1048576 : Int))) then
                    (some ((30 : Int), ()))
                  else
                    (bif (decide (x.1.2.2.1 < (1 : Int))) then
                      (some ((30 : Int), ()))
                    else
                      (bif (decide (x.1.2.2.1 > (1152921504606846976 : Int))) then
                        (some ((30 : Int), ()))
                      else
                        (some ((0 : Int), ())))))))
            else
              (bif (decide (x.1.2.1 < (0 : Int))) then
                (some ((30 : Int), ()))
              else
                (bif (decide (x.1.2.1 ≥ (1048576 : Int))) then
                  (some ((30 : Int), ()))
                else
                  (bif (decide (x.1.2.2.1 < (1 : Int))) then
                    (some ((30 : Int), ()))
                  else
                    (bif (decide (x.1.2.2.1 > (1152921504606846976 : Int))) then
                      (some ((30 : Int), ()))
                    else
                      (some ((0 : Int), ()))))))))))
    else
      (bif (decide (x.1.2.2.2 < x.1.2.2.1)) then
        (some ((30 : Int), ()))
      else
        (bif (decide (x.1.2.2.2 > (1152921504606846976 : Int))) then
          (some ((30 : Int), ()))
        else
          (bif (!(decide (x.1.1 = (1 : Int)))) then
            (bif (!(decide (x.1.2.2.2 = x.1.2.2.1))) then
              (some ((30 : Int), ()))
            else
              (bif (decide (x.1.2.1 < (0 : Int))) then
                (some ((30 : Int), ()))
              else
                (bif (decide (x.1.2.1 ≥ (1048576 : Int))) then
                  (some ((30 : Int), ()))
                else
                  (bif (decide (x.1.2.2.1 < (1 : Int))) then
                    (some ((30 : Int), ()))
                  else
                    (bif (decide (x.1.2.2.1 > (1152921504606846976 : Int))) then
                      (some ((30 : Int), ()))
                    else
                      (some ((0 : Int), ())))))))
          else
            (bif (decide (x.1.2.1 < (0 : Int))) then
              (some ((30 : Int), ()))
            else
              (bif (decide (x.1.2.1 ≥ (1048576 : Int))) then
                (some ((30 : Int), ()))
              else
                (bif (decide (x.1.2.2.1 < (1 : Int))) then
                  (some ((30 : Int), ()))
                else
                  (bif (decide (x.1.2.2.1 > (1152921504606846976 : Int))) then
                    (some ((30 : Int), ()))
                  else
                    (some ((0 : Int), ()))))))))))
  else
    (bif (decide (x.1.2.2.2 < x.1.2.2.1)) then
      (some ((30 : Int), ()))
    else
      (bif (decide (x.1.2.2.2 > (1152921504606846976 : Int))) then
        (some ((30 : Int), ()))
      else
        (bif (!(decide (x.1.1 = (1 : Int)))) then
          (bif (!(decide (x.1.2.2.2 = x.1.2.2.1))) then
            (some ((30 : Int), ()))
          else
            (bif (decide (x.1.2.1 < (0 : Int))) then
              (some ((30 : Int), ()))
            else
              (bif (decide (x.1.2.1 ≥ (1048576 : Int))) then
                (some ((30 : Int), ()))
              else
                (bif (decide (x.1.2.2.1 < (1 : Int))) then
                  (some ((30 : Int), ()))
                else
                  (bif (decide (x.1.2.2.1 > (1152921504606846976 : Int))) then
                    (some ((30 : Int), ()))
                  else
                    (some ((0 : Int), ())))))))
        else
          (bif (decide (x.1.2.1 < (0 : Int))) then
            (some ((30 : Int), ()))
          else
            (bif (decide (x.1.2.1 ≥ (1048576 : Int))) then
              (some ((30 : Int), ()))
            else
              (bif (decide (x.1.2.2.1 < (1 : Int))) then
                (some ((30 : Int), ()))
              else
                (bif (decide (x.1.2.2.1 > (1152921504606846976 : Int))) then
                  (some ((30 : Int), ()))
                else
                  (some ((0 : Int), ())))))))))

noncomputable def r46 : PDen [(true, (.pair (.int .i64) (.pair (.int .i64) (.pair (.int .i64) (.int .i64)))))] → Option (PDen [(false, (.int .i64))]) := fun x => afun Try.prog (envOf [] [] [] []) ⟨[], []⟩ Try.f46 [(true, (.pair (.int .i64) (.pair (.int .i64) (.pair (.int .i64) (.int .i64)))))] [(false, (.int .i64))] false x
theorem r46_eq : r46 = m46 := by kernel_rfl

theorem c46 : CS.Sound Try.prog 46 ⟨[(true, (.pair (.int .i64) (.pair (.int .i64) (.pair (.int .i64) (.int .i64)))))], [(false, (.int .i64))], false, m46⟩ := afun_sound' (envOf_sound (CSs.nil) (HDs.nil) (IDs.nil)) rfl Try.follows (f := 46) (fn := Try.f46) Try.func46 (by kernel_rfl) (by kernel_rfl) r46_eq
end Go.Proofs.Ytefekolpfklhdaa
end

section
/- What function 48 (slipway/scan.inRange) computes, by the kernel. -/
open Go Go.Proofs.AM
namespace Go.Proofs.Ytefekolpfklhdaa

noncomputable def m48 (x : Int × Int × Int × Unit) : Option (Bool × Unit) :=
  bif (decide (x.1 ≥ x.2.1)) then
    (some ((decide (x.1 ≤ x.2.2.1)), ()))
  else
    (some (false, ()))

noncomputable def r48 : PDen [(false, (.int .i64)), (false, (.int .i64)), (false, (.int .i64))] → Option (PDen [(false, .bool)]) := fun x => afun Try.prog (envOf [] [] [] []) ⟨[], []⟩ Try.f48 [(false, (.int .i64)), (false, (.int .i64)), (false, (.int .i64))] [(false, .bool)] false x
theorem r48_eq : r48 = m48 := by kernel_rfl

theorem c48 : CS.Sound Try.prog 48 ⟨[(false, (.int .i64)), (false, (.int .i64)), (false, (.int .i64))], [(false, .bool)], false, m48⟩ := afun_sound' (envOf_sound (CSs.nil) (HDs.nil) (IDs.nil)) rfl Try.follows (f := 48) (fn := Try.f48) Try.func48 (by kernel_rfl) (by kernel_rfl) r48_eq
end Go.Proofs.Ytefekolpfklhdaa
end

section
/- What function 68 (slipway/scan.counts) computes, by the kernel. -/
open Go Go.Proofs.AM
namespace Go.Proofs.Ytefekolpfklhdaa

noncomputable def m68 (x : Int × ((Int × Int) × (Int × (Int × (Int × Int)))) × Unit) : Option (Bool × Unit) :=
  Option.bind (m46 (x.2.1.2, ())) fun (y1 : (Int × Unit)) =>
  bif (decide (y1.1 = (0 : Int))) then
    (bif (!(decide (x.2.1.2.1 = (3 : Int)))) then
      (Option.bind (m48 (x.2.1.1.1, ((0 : Int), ((255 : Int), ())))) fun (y2 : (Bool × Unit)) =>
      bif y2.1 then
        (Option.bind (m48 (x.2.1.1.2, ((0 : Int), ((Go.IntKind.wrap .i64 (x.1 - (1 : Int))), ())))) fun (y3 : (Bool × Unit)) =>
        some (y3.1, ()))
      else
        (some (false, ())))
    else
      (some (false, ())))
  else
    (some (false, ()))

noncomputable def r68 : PDen [(false, (.int .i64)), (true, (.pair (.pair (.int .i64) (.int .i64)) (.pair (.int .i64) (.pair (.int .i64) (.pair (.int .i64) (.int .i64))))))] → Option (PDen [(false, .bool)]) := fun x => afun Try.prog (envOf [(46, ⟨[(true, (.pair (.int .i64) (.pair (.int .i64) (.pair (.int .i64) (.int .i64)))))], [(false, (.int .i64))], false, m46⟩), (48, ⟨[(false, (.int .i64)), (false, (.int .i64)), (false, (.int .i64))], [(false, .bool)], false, m48⟩)] [] [] []) ⟨[], []⟩ Try.f68 [(false, (.int .i64)), (true, (.pair (.pair (.int .i64) (.int .i64)) (.pair (.int .i64) (.pair (.int .i64) (.pair (.int .i64) (.int .i64))))))] [(false, .bool)] false x
theorem r68_eq : r68 = m68 := by kernel_rfl

theorem c68 : CS.Sound Try.prog 68 ⟨[(false, (.int .i64)), (true, (.pair (.pair (.int .i64) (.int .i64)) (.pair (.int .i64) (.pair (.int .i64) (.pair (.int .i64) (.int .i64))))))], [(false, .bool)], false, m68⟩ := afun_sound' (envOf_sound (CSs.cons c46 (CSs.cons c48 (CSs.nil))) (HDs.nil) (IDs.nil)) rfl Try.follows (f := 68) (fn := Try.f68) Try.func68 (by kernel_rfl) (by kernel_rfl) r68_eq
end Go.Proofs.Ytefekolpfklhdaa
end

section
/- What function 88 (math/bits.Mul32) computes, by the kernel. -/
open Go Go.Proofs.AM
namespace Go.Proofs.Ytefekolpfklhdaa

noncomputable def m88 (x : Int × Int × Unit) : Option (Int × (Int × Unit)) :=
  some ((Go.IntKind.wrap .u32 (ishr .u64 (Go.IntKind.wrap .u64 ((Go.IntKind.wrap .u64 x.1) * (Go.IntKind.wrap .u64 x.2.1))) (32 : Int))), ((Go.IntKind.wrap .u32 (Go.IntKind.wrap .u64 ((Go.IntKind.wrap .u64 x.1) * (Go.IntKind.wrap .u64 x.2.1)))), ()))

noncomputable def r88 : PDen [(false, (.int .u32)), (false, (.int .u32))] → Option (PDen [(false, (.int .u32)), (false, (.int .u32))]) := fun x => afun Try.prog (envOf [] [] [] []) ⟨[], []⟩ Try.f88 [(false, (.int .u32)), (false, (.int .u32))] [(false, (.int .u32)), (false, (.int .u32))] false x
theorem r88_eq : r88 = m88 := by kernel_rfl

theorem c88 : CS.Sound Try.prog 88 ⟨[(false, (.int .u32)), (false, (.int .u32))], [(false, (.int .u32)), (false, (.int .u32))], false, m88⟩ := afun_sound' (envOf_sound (CSs.nil) (HDs.nil) (IDs.nil)) rfl Try.follows (f := 88) (fn := Try.f88) Try.func88 (by kernel_rfl) (by kernel_rfl) r88_eq
end Go.Proofs.Ytefekolpfklhdaa
end

section
/- What function 89 (math/bits.Mul64) computes, by the kernel. -/
open Go Go.Proofs.AM
namespace Go.Proofs.Ytefekolpfklhdaa

noncomputable def m89 (x : Int × Int × Unit) : Option (Int × (Int × Unit)) :=
  some ((Go.IntKind.wrap .u64 ((Go.IntKind.wrap .u64 ((Go.IntKind.wrap .u64 ((ishr .u64 x.1 (32 : Int)) * (ishr .u64 x.2.1 (32 : Int)))) + (ishr .u64 (Go.IntKind.wrap .u64 ((Go.IntKind.wrap .u64 ((ishr .u64 x.1 (32 : Int)) * (iand .u64 x.2.1 (4294967295 : Int)))) + (ishr .u64 (Go.IntKind.wrap .u64 ((iand .u64 x.1 (4294967295 : Int)) * (iand .u64 x.2.1 (4294967295 : Int)))) (32 : Int)))) (32 : Int)))) + (ishr .u64 (Go.IntKind.wrap .u64 ((iand .u64 (Go.IntKind.wrap .u64 ((Go.IntKind.wrap .u64 ((ishr .u64 x.1 (32 : Int)) * (iand .u64 x.2.1 (4294967295 : Int)))) + (ishr .u64 (Go.IntKind.wrap .u64 ((iand .u64 x.1 (4294967295 : Int)) * (iand .u64 x.2.1 (4294967295 : Int)))) (32 : Int)))) (4294967295 : Int)) + (Go.IntKind.wrap .u64 ((iand .u64 x.1 (4294967295 : Int)) * (ishr .u64 x.2.1 (32 : Int)))))) (32 : Int)))), ((Go.IntKind.wrap .u64 (x.1 * x.2.1)), ()))

noncomputable def r89 : PDen [(false, (.int .u64)), (false, (.int .u64))] → Option (PDen [(false, (.int .u64)), (false, (.int .u64))]) := fun x => afun Try.prog (envOf [] [] [] []) ⟨[], []⟩ Try.f89 [(false, (.int .u64)), (false, (.int .u64))] [(false, (.int .u64)), (false, (.int .u64))] false x
theorem r89_eq : r89 = m89 := by kernel_rfl

theorem c89 : CS.Sound Try.prog 89 ⟨[(false, (.int .u64)), (false, (.int .u64))], [(false, (.int .u64)), (false, (.int .u64))], false, m89⟩ := afun_sound' (envOf_sound (CSs.nil) (HDs.nil) (IDs.nil)) rfl Try.follows (f := 89) (fn := Try.f89) Try.func89 (by kernel_rfl) (by kernel_rfl) r89_eq
end Go.Proofs.Ytefekolpfklhdaa
end

section
/- What function 70 (math/bits.Mul) computes, by the kernel. -/
open Go Go.Proofs.AM
namespace Go.Proofs.Ytefekolpfklhdaa

noncomputable def m70 (x : Int × Int × Unit) : Option (Int × (Int × Unit)) :=
  Option.bind (m89 (x.1, (x.2.1, ()))) fun (y1 : (Int × (Int × Unit))) =>
  some (y1.1, (y1.2.1, ()))

noncomputable def r70 : PDen [(false, (.int .u64)), (false, (.int .u64))] → Option (PDen [(false, (.int .u64)), (false, (.int .u64))]) := fun x => afun Try.prog (envOf [(88, ⟨[(false, (.int .u32)), (false, (.int .u32))], [(false, (.int .u32)), (false, (.int .u32))], false, m88⟩), (89, ⟨[(false, (.int .u64)), (false, (.int .u64))], [(false, (.int .u64)), (false, (.int .u64))], false, m89⟩)] [] [] []) ⟨[], []⟩ Try.f70 [(false, (.int .u64)), (false, (.int .u64))] [(false, (.int .u64)), (false, (.int .u64))] false x
theorem r70_eq : r70 = m70 := by kernel_rfl

theorem c70 : CS.Sound Try.prog 70 ⟨[(false, (.int .u64)), (false, (.int .u64))], [(false, (.int .u64)), (false, (.int .u64))], false, m70⟩ := afun_sound' (envOf_sound (CSs.cons c88 (CSs.cons c89 (CSs.nil))) (HDs.nil) (IDs.nil)) rfl Try.follows (f := 70) (fn := Try.f70) Try.func70 (by kernel_rfl) (by kernel_rfl) r70_eq
end Go.Proofs.Ytefekolpfklhdaa
end

section
/- What function 66 (slices.Repeat(()int,int)) computes, by the kernel. -/
open Go Go.Proofs.AM
namespace Go.Proofs.Ytefekolpfklhdaa

noncomputable def m66 (x : (List Int) × Int × Unit) : Option (List Int) :=
  bif (decide (x.2.1 < (0 : Int))) then
    (none)
  else
    (Option.bind (m70 ((Go.IntKind.wrap .u64 (((List.length x.1) : Nat) : Int)), ((Go.IntKind.wrap .u64 x.2.1), ()))) fun (y1 : (Int × (Int × Unit))) =>
    bif (decide (y1.1 > (0 : Int))) then
      (none)
    else
      (bif (decide (y1.2.1 > (9223372036854775807 : Int))) then
        (none)
      else
        (gd ((0 : Int) ≤ (Go.IntKind.wrap .i64 y1.2.1)) (gd ((Go.IntKind.wrap .i64 y1.2.1) ≤ (Go.IntKind.wrap .i64 y1.2.1)) (gd (((Go.IntKind.wrap .i64 y1.2.1) * (8 : Int)) ≤ (140737488355328 : Int)) (Option.bind (loopM (X := (Int × (List Int))) (E := (List Int)) (fun (x2 : (Int × (List Int))) =>
                  bif (decide (x2.1 < (((List.length x2.2) : Nat) : Int))) then
                    (gd ((0 : Int) ≤ x2.1) (gd (x2.1 ≤ (((List.length x2.2) : Nat) : Int)) (gd ((((List.length x2.2) : Nat) : Int) ≤ (((List.length x2.2) : Nat) : Int)) (gd ((0 : Int) ≤ x2.1) (gd (x2.1 ≤ (((List.length x2.2) : Nat) : Int)) (some (Sum.inl ((Go.IntKind.wrap .i64 (x2.1 + (((min (List.length (List.take ((Int.toNat x2.1) - (Int.toNat (0 : Int))) (List.drop (Int.toNat (0 : Int)) x2.2))) ((Int.toNat (((List.length x2.2) : Nat) : Int)) - (Int.toNat x2.1))) : Nat) : Int))), (((List.take (Int.toNat x2.1) x2.2) ++ (List.take ((Int.toNat (((List.length x2.2) : Nat) : Int)) - (Int.toNat x2.1)) (List.take ((Int.toNat x2.1) - (Int.toNat (0 : Int))) (List.drop (Int.toNat (0 : Int)) x2.2)))) ++ (List.drop ((Int.toNat x2.1) + (min (List.length (List.take ((Int.toNat x2.1) - (Int.toNat (0 : Int))) (List.drop (Int.toNat (0 : Int)) x2.2))) ((Int.toNat (((List.length x2.2) : Nat) : Int)) - (Int.toNat x2.1)))) x2.2))))))))))
                  else
                    (some (Sum.inr x2.2))) ((((min (List.length x.1) (List.length (List.replicate (Int.toNat (Go.IntKind.wrap .i64 y1.2.1)) (0 : Int)))) : Nat) : Int), ((List.take (List.length (List.replicate (Int.toNat (Go.IntKind.wrap .i64 y1.2.1)) (0 : Int))) x.1) ++ (List.drop (List.length x.1) (List.replicate (Int.toNat (Go.IntKind.wrap .i64 y1.2.1)) (0 : Int)))))) fun (y2 : (List Int)) =>
              some y2))))))

noncomputable def r66 : PDen [(false, (.sl (.int .i64))), (false, (.int .i64))] → Option (List (K.den (.int .i64))) := fun x => afunO Try.prog (envOf [(70, ⟨[(false, (.int .u64)), (false, (.int .u64))], [(false, (.int .u64)), (false, (.int .u64))], false, m70⟩)] [] [] []) ⟨[(0, ⟨[.slot 8 (.d false (.int .i64) true), .vec 0 3 (.int .i64) true], [], [(some 0, [.vec 0 3 (.int .i64) true])], none⟩)], []⟩ Try.f66 [(false, (.sl (.int .i64))), (false, (.int .i64))] 3 (.int .i64) false x
theorem r66_eq : r66 = m66 := by kernel_rfl

theorem c66 : OS.Sound Try.prog 66 ⟨[(false, (.sl (.int .i64))), (false, (.int .i64))], 3, (.int .i64), false, m66⟩ := afunO_sound' (envOf_sound (CSs.cons c70 (CSs.nil)) (HDs.nil) (IDs.nil)) rfl Try.follows (f := 66) (fn := Try.f66) Try.func66 (by kernel_rfl) (by kernel_rfl) r66_eq
end Go.Proofs.Ytefekolpfklhdaa
end

section
/- What function 38 (slipway/plan.New) computes, by the kernel. -/
open Go Go.Proofs.AM
namespace Go.Proofs.Ytefekolpfklhdaa

noncomputable def m38 (x : Int × Int × Int × Unit) : Option ((Int × (Int × (Int × ((List Int) × ((List Bool) × ((Int × (Int × Int)) × (List (Int × (List Int))))))))) × (Int × Unit)) :=
  bif (decide (x.1 < (4 : Int))) then
    (some (((0 : Int), ((0 : Int), ((0 : Int), (([] : List Int), (([] : List Bool), (((0 : Int), ((0 : Int), (0 : Int))), ([] : List (Int × (List Int))))))))), ((1 : Int), ())))
  else
    (bif (decide (x.1 > (32 : Int))) then
      (some (((0 : Int), ((0 : Int), ((0 : Int), (([] : List Int), (([] : List Bool), (((0 : Int), ((0 : Int), (0 : Int))), ([] : List (Int × (List Int))))))))), ((1 : Int), ())))
    else
      (bif (decide (x.2.1 < (1 : Int))) then
        (some (((0 : Int), ((0 : Int), ((0 : Int), (([] : List Int), (([] : List Bool), (((0 : Int), ((0 : Int), (0 : Int))), ([] : List (Int × (List Int))))))))), ((1 : Int), ())))
      else
        (bif (decide (x.2.1 > (256 : Int))) then
          (some (((0 : Int), ((0 : Int), ((0 : Int), (([] : List Int), (([] : List Bool), (((0 : Int), ((0 : Int), (0 : Int))), ([] : List (Int × (List Int))))))))), ((1 : Int), ())))
        else
          (bif (decide (x.2.2.1 < (1 : Int))) then
            (some (((0 : Int), ((0 : Int), ((0 : Int), (([] : List Int), (([] : List Bool), (((0 : Int), ((0 : Int), (0 : Int))), ([] : List (Int × (List Int))))))))), ((1 : Int), ())))
          else
            (bif (decide (x.2.2.1 > (8 : Int))) then
              (some (((0 : Int), ((0 : Int), ((0 : Int), (([] : List Int), (([] : List Bool), (((0 : Int), ((0 : Int), (0 : Int))), ([] : List (Int × (List Int))))))))), ((1 : Int), ())))
            else
              (Option.bind (m66 (((-1 : Int) :: ([] : List Int)), (x.2.1, ()))) fun (y1 : (List Int)) =>
              gd ((0 : Int) ≤ (Go.IntKind.wrap .i64 (x.2.1 * x.1))) (gd ((Go.IntKind.wrap .i64 (x.2.1 * x.1)) ≤ (Go.IntKind.wrap .i64 (x.2.1 * x.1))) (gd (((Go.IntKind.wrap .i64 (x.2.1 * x.1)) * (1 : Int)) ≤ (140737488355328 : Int)) (some ((x.1, (x.2.1, (x.2.2.1, (y1, ((List.replicate (Int.toNat (Go.IntKind.wrap .i64 (x.2.1 * x.1))) false), (((-1 : Int), ((0 : Int), (0 : Int))), ([] : List (Int × (List Int))))))))), ((0 : Int), ())))))))))))

noncomputable def r38 : PDen [(false, (.int .i64)), (false, (.int .i64)), (false, (.int .i64))] → Option (PDen [(true, (.pair (.int .i64) (.pair (.int .i64) (.pair (.int .i64) (.pair (.sl (.int .i64)) (.pair (.sl .bool) (.pair (.pair (.int .i64) (.pair (.int .i64) (.int .i64))) (.sl (.pair (.int .i64) (.sl (.int .i64))))))))))), (false, (.int .i64))]) := fun x => afunM Try.prog (envOf [] [(66, OS.hd ⟨[(false, (.sl (.int .i64))), (false, (.int .i64))], 3, (.int .i64), false, m66⟩)] [] []) ⟨[], []⟩ Try.f38 [(false, (.int .i64)), (false, (.int .i64)), (false, (.int .i64))] [(true, (.pair (.int .i64) (.pair (.int .i64) (.pair (.int .i64) (.pair (.sl (.int .i64)) (.pair (.sl .bool) (.pair (.pair (.int .i64) (.pair (.int .i64) (.int .i64))) (.sl (.pair (.int .i64) (.sl (.int .i64))))))))))), (false, (.int .i64))] [(.p .d (.p .d (.p .d (.p (.s 3) (.p (.s 4) .d))))), .d] false x
theorem r38_eq : r38 = m38 := by kernel_rfl

theorem c38 : OM.Sound Try.prog 38 ⟨[(false, (.int .i64)), (false, (.int .i64)), (false, (.int .i64))], [(true, (.pair (.int .i64) (.pair (.int .i64) (.pair (.int .i64) (.pair (.sl (.int .i64)) (.pair (.sl .bool) (.pair (.pair (.int .i64) (.pair (.int .i64) (.int .i64))) (.sl (.pair (.int .i64) (.sl (.int .i64))))))))))), (false, (.int .i64))], [(.p .d (.p .d (.p .d (.p (.s 3) (.p (.s 4) .d))))), .d], false, m38⟩ := afunM_sound' (envOf_sound (CSs.nil) (HDs.cons (OS.Sound.hd c66) (HDs.nil)) (IDs.nil)) rfl Try.follows (f := 38) (fn := Try.f38) Try.func38 (by kernel_rfl) (by kernel_rfl) r38_eq
end Go.Proofs.Ytefekolpfklhdaa
end

section
/- What function 41 (slices.Repeat(()slipway/api.Place,slipway/api.Place)) computes, by the kernel. -/
open Go Go.Proofs.AM
namespace Go.Proofs.Ytefekolpfklhdaa

noncomputable def m41 (x : (List (Int × Int)) × Int × Unit) : Option (List (Int × Int)) :=
  bif (decide (x.2.1 < (0 : Int))) then
    (none)
  else
    (Option.bind (m70 ((Go.IntKind.wrap .u64 (((List.length x.1) : Nat) : Int)), ((Go.IntKind.wrap .u64 x.2.1), ()))) fun (y1 : (Int × (Int × Unit))) =>
    bif (decide (y1.1 > (0 : Int))) then
      (none)
    else
      (bif (decide (y1.2.1 > (9223372036854775807 : Int))) then
        (none)
      else
        (gd ((0 : Int) ≤ (Go.IntKind.wrap .i64 y1.2.1)) (gd ((Go.IntKind.wrap .i64 y1.2.1) ≤ (Go.IntKind.wrap .i64 y1.2.1)) (gd (((Go.IntKind.wrap .i64 y1.2.1) * (16 : Int)) ≤ (140737488355328 : Int)) (Option.bind (loopM (X := (Int × (List (Int × Int)))) (E := (List (Int × Int))) (fun (x2 : (Int × (List (Int × Int)))) =>
                  bif (decide (x2.1 < (((List.length x2.2) : Nat) : Int))) then
                    (gd ((0 : Int) ≤ x2.1) (gd (x2.1 ≤ (((List.length x2.2) : Nat) : Int)) (gd ((((List.length x2.2) : Nat) : Int) ≤ (((List.length x2.2) : Nat) : Int)) (gd ((0 : Int) ≤ x2.1) (gd (x2.1 ≤ (((List.length x2.2) : Nat) : Int)) (some (Sum.inl ((Go.IntKind.wrap .i64 (x2.1 + (((min (List.length (List.take ((Int.toNat x2.1) - (Int.toNat (0 : Int))) (List.drop (Int.toNat (0 : Int)) x2.2))) ((Int.toNat (((List.length x2.2) : Nat) : Int)) - (Int.toNat x2.1))) : Nat) : Int))), (((List.take (Int.toNat x2.1) x2.2) ++ (List.take ((Int.toNat (((List.length x2.2) : Nat) : Int)) - (Int.toNat x2.1)) (List.take ((Int.toNat x2.1) - (Int.toNat (0 : Int))) (List.drop (Int.toNat (0 : Int)) x2.2)))) ++ (List.drop ((Int.toNat x2.1) + (min (List.length (List.take ((Int.toNat x2.1) - (Int.toNat (0 : Int))) (List.drop (Int.toNat (0 : Int)) x2.2))) ((Int.toNat (((List.length x2.2) : Nat) : Int)) - (Int.toNat x2.1)))) x2.2))))))))))
                  else
                    (some (Sum.inr x2.2))) ((((min (List.length x.1) (List.length (List.replicate (Int.toNat (Go.IntKind.wrap .i64 y1.2.1)) ((0 : Int), (0 : Int))))) : Nat) : Int), ((List.take (List.length (List.replicate (Int.toNat (Go.IntKind.wrap .i64 y1.2.1)) ((0 : Int), (0 : Int)))) x.1) ++ (List.drop (List.length x.1) (List.replicate (Int.toNat (Go.IntKind.wrap .i64 y1.2.1)) ((0 : Int), (0 : Int))))))) fun (y2 : (List (Int × Int))) =>
              some y2))))))

noncomputable def r41 : PDen [(false, (.sl (.pair (.int .i64) (.int .i64)))), (false, (.int .i64))] → Option (List (K.den (.pair (.int .i64) (.int .i64)))) := fun x => afunO Try.prog (envOf [(70, ⟨[(false, (.int .u64)), (false, (.int .u64))], [(false, (.int .u64)), (false, (.int .u64))], false, m70⟩)] [] [] []) ⟨[(0, ⟨[.slot 8 (.d false (.int .i64) true), .vec 0 34 (.pair (.int .i64) (.int .i64)) true], [], [(some 0, [.vec 0 34 (.pair (.int .i64) (.int .i64)) true])], none⟩)], []⟩ Try.f41 [(false, (.sl (.pair (.int .i64) (.int .i64)))), (false, (.int .i64))] 34 (.pair (.int .i64) (.int .i64)) false x
theorem r41_eq : r41 = m41 := by kernel_rfl

theorem c41 : OS.Sound Try.prog 41 ⟨[(false, (.sl (.pair (.int .i64) (.int .i64)))), (false, (.int .i64))], 34, (.pair (.int .i64) (.int .i64)), false, m41⟩ := afunO_sound' (envOf_sound (CSs.cons c70 (CSs.nil)) (HDs.nil) (IDs.nil)) rfl Try.follows (f := 41) (fn := Try.f41) Try.func41 (by kernel_rfl) (by kernel_rfl) r41_eq
end Go.Proofs.Ytefekolpfklhdaa
end

section
/- What function 14 (slipway/scan.Newest) computes, by the kernel. -/
open Go Go.Proofs.AM
namespace Go.Proofs.Ytefekolpfklhdaa

noncomputable def m14 (x : Int × Int × (List ((Int × Int) × (Int × (Int × (Int × Int))))) × Unit) : Option ((List (Int × Int)) × Unit) :=
  Option.bind (m38 (x.1, (x.2.1, ((1 : Int), ())))) fun (y1 : ((Int × (Int × (Int × ((List Int) × ((List Bool) × ((Int × (Int × Int)) × (List (Int × (List Int))))))))) × (Int × Unit))) =>
  bif (!(decide (y1.2.1 = (0 : Int)))) then
    (some (([] : List (Int × Int)), ()))
  else
    (Option.bind (loopM (X := (Int × (List (Int × ((Int × Int) × (Int × (Int × (Int × Int)))))))) (E := (List (Int × ((Int × Int) × (Int × (Int × (Int × Int))))))) (fun (x2 : (Int × (List (Int × ((Int × Int) × (Int × (Int × (Int × Int)))))))) =>
        bif (decide (x2.1 < (((List.length x.2.2.1) : Nat) : Int))) then
          (gd ((0 : Int) ≤ x2.1) (gd (x2.1 < (((List.length x.2.2.1) : Nat) : Int)) (Option.bind (m68 (x.1, ((List.getD x.2.2.1 (Int.toNat x2.1) (((0 : Int), (0 : Int)), ((0 : Int), ((0 : Int), ((0 : Int), (0 : Int)))))), ()))) fun (y3 : (Bool × Unit)) =>
              bif y3.1 then
                (bif (decide ((List.getD x.2.2.1 (Int.toNat x2.1) (((0 : Int), (0 : Int)), ((0 : Int), ((0 : Int), ((0 : Int), (0 : Int)))))).2.2.1 ≥ (Go.IntKind.wrap .i64 (x.2.1 * x.1)))) then
                  (some (Sum.inl ((Go.IntKind.wrap .i64 (x2.1 + (1 : Int))), x2.2)))
                else
                  (bif (!(mhas (false, (.int .i64)) x2.2 (List.getD x.2.2.1 (Int.toNat x2.1) (((0 : Int), (0 : Int)), ((0 : Int), ((0 : Int), ((0 : Int), (0 : Int)))))).2.2.1)) then
                    (some (Sum.inl ((Go.IntKind.wrap .i64 (x2.1 + (1 : Int))), (mset (false, (.int .i64)) x2.2 (List.getD x.2.2.1 (Int.toNat x2.1) (((0 : Int), (0 : Int)), ((0 : Int), ((0 : Int), ((0 : Int), (0 : Int)))))).2.2.1 (List.getD x.2.2.1 (Int.toNat x2.1) (((0 : Int), (0 : Int)), ((0 : Int), ((0 : Int), ((0 : Int), (0 : Int))))))))))
                  else
                    (Option.bind (m40 ((List.getD x.2.2.1 (Int.toNat x2.1) (((0 : Int), (0 : Int)), ((0 : Int), ((0 : Int), ((0 : Int), (0 : Int)))))), ((mget (false, (.int .i64)) x2.2 (List.getD x.2.2.1 (Int.toNat x2.1) (((0 : Int), (0 : Int)), ((0 : Int), ((0 : Int), ((0 : Int), (0 : Int)))))).2.2.1 (((0 : Int), (0 : Int)), ((0 : Int), ((0 : Int), ((0 : Int), (0 : Int)))))), ()))) fun (y4 : (Bool × Unit)) =>
                    bif y4.1 then
                      (some (Sum.inl ((Go.IntKind.wrap .i64 (x2.1 + (1 : Int))), (mset (false, (.int .i64)) x2.2 (List.getD x.2.2.1 (Int.toNat x2.1) (((0 : Int), (0 : Int)), ((0 : Int), ((0 : Int), ((0 : Int), (0 : Int)))))).2.2.1 (List.getD x.2.2.1 (Int.toNat x2.1) (((0 : Int), (0 : Int)), ((0 : Int), ((0 : Int), ((0 : Int), (0 : Int))))))))))
                    else
                      (some (Sum.inl ((Go.IntKind.wrap .i64 (x2.1 + (1 : Int))), x2.2))))))
              else
                (some (Sum.inl ((Go.IntKind.wrap .i64 (x2.1 + (1 : Int))), x2.2))))))
        else
          (some (Sum.inr x2.2))) ((0 : Int), ([] : List (Int × ((Int × Int) × (Int × (Int × (Int × Int)))))))) fun (y2 : (List (Int × ((Int × Int) × (Int × (Int × (Int × Int))))))) =>
    Option.bind (m42 ()) fun (y3 : ((Int × Int) × Unit)) =>
    Option.bind (m41 ((y3.1 :: ([] : List (Int × Int))), ((Go.IntKind.wrap .i64 (x.2.1 * x.1)), ()))) fun (y4 : (List (Int × Int))) =>
    Option.bind (anyM (A := (Int × ((Int × Int) × (Int × (Int × (Int × Int)))))) (X := (List (Int × Int))) (E := (List (Int × Int))) (fun (p5 : (Int × ((Int × Int) × (Int × (Int × (Int × Int)))))) l5 (x5 : (List (Int × Int))) =>
        gd ((0 : Int) ≤ p5.1) (gd (p5.1 < (((List.length x5) : Nat) : Int)) (gd ((Int.toNat p5.1) < (List.length x5)) (some (Sum.inl (List.set x5 (Int.toNat p5.1) p5.2.1)))))) (fun (x5 : (List (Int × Int))) =>
        some (Sum.inr x5)) y2 y4) fun (y5 : (List (Int × Int))) =>
    some (y5, ()))

noncomputable def i14_39 : ID := aInl Try.prog (envOf [] [] [] []) ⟨[], []⟩ Try.f39
noncomputable def i14_67 : ID := aInl Try.prog (envOf [(68, ⟨[(false, (.int .i64)), (true, (.pair (.pair (.int .i64) (.int .i64)) (.pair (.int .i64) (.pair (.int .i64) (.pair (.int .i64) (.int .i64))))))], [(false, .bool)], false, m68⟩)] [] [] []) ⟨[(12000, ⟨[.slot 8 (.d false (.int .i64) true), .map 5 (false, (.int .i64)) (true, (.pair (.pair (.int .i64) (.int .i64)) (.pair (.int .i64) (.pair (.int .i64) (.pair (.int .i64) (.int .i64)))))) true], [], [(some 0, [.map 5 (false, (.int .i64)) (true, (.pair (.pair (.int .i64) (.int .i64)) (.pair (.int .i64) (.pair (.int .i64) (.pair (.int .i64) (.int .i64)))))) true])], none⟩)], []⟩ Try.f67
noncomputable def r14 : PDen [(false, (.int .i64)), (false, (.int .i64)), (false, (.sl (.pair (.pair (.int .i64) (.int .i64)) (.pair (.int .i64) (.pair (.int .i64) (.pair (.int .i64) (.int .i64)))))))] → Option (PDen [(false, (.sl (.pair (.int .i64) (.int .i64))))]) := fun x => afun Try.prog (envOf [(40, ⟨[(true, (.pair (.pair (.int .i64) (.int .i64)) (.pair (.int .i64) (.pair (.int .i64) (.pair (.int .i64) (.int .i64)))))), (true, (.pair (.pair (.int .i64) (.int .i64)) (.pair (.int .i64) (.pair (.int .i64) (.pair (.int .i64) (.int .i64))))))], [(false, .bool)], false, m40⟩), (42, ⟨[], [(true, (.pair (.int .i64) (.int .i64)))], false, m42⟩)] [(41, OS.hd ⟨[(false, (.sl (.pair (.int .i64) (.int .i64)))), (false, (.int .i64))], 34, (.pair (.int .i64) (.int .i64)), false, m41⟩), (38, OM.hd ⟨[(false, (.int .i64)), (false, (.int .i64)), (false, (.int .i64))], [(true, (.pair (.int .i64) (.pair (.int .i64) (.pair (.int .i64) (.pair (.sl (.int .i64)) (.pair (.sl .bool) (.pair (.pair (.int .i64) (.pair (.int .i64) (.int .i64))) (.sl (.pair (.int .i64) (.sl (.int .i64))))))))))), (false, (.int .i64))], [(.p .d (.p .d (.p .d (.p (.s 3) (.p (.s 4) .d))))), .d], false, m38⟩)] [] [(39, i14_39), (67, i14_67)]) ⟨[(2, ⟨[.vec 12 34 (.pair (.int .i64) (.int .i64)) true], [], [(some 2, [.vec 12 34 (.pair (.int .i64) (.int .i64)) true])], some 63⟩)], []⟩ Try.f14 [(false, (.int .i64)), (false, (.int .i64)), (false, (.sl (.pair (.pair (.int .i64) (.int .i64)) (.pair (.int .i64) (.pair (.int .i64) (.pair (.int .i64) (.int .i64)))))))] [(false, (.sl (.pair (.int .i64) (.int .i64))))] false x
theorem r14_eq : r14 = m14 := by kernel_rfl

theorem i14_39_sound : i14_39.Sound Try.prog 39 := aInl_sound' (envOf_sound (CSs.nil) (HDs.nil) (IDs.nil)) Try.follows (f := 39) (fn := Try.f39) Try.func39 (by kernel_rfl) (by kernel_rfl)
theorem i14_67_sound : i14_67.Sound Try.prog 67 := aInl_sound' (envOf_sound (CSs.cons c68 (CSs.nil)) (HDs.nil) (IDs.nil)) Try.follows (f := 67) (fn := Try.f67) Try.func67 (by kernel_rfl) (by kernel_rfl)
theorem c14 : CS.Sound Try.prog 14 ⟨[(false, (.int .i64)), (false, (.int .i64)), (false, (.sl (.pair (.pair (.int .i64) (.int .i64)) (.pair (.int .i64) (.pair (.int .i64) (.pair (.int .i64) (.int .i64)))))))], [(false, (.sl (.pair (.int .i64) (.int .i64))))], false, m14⟩ := afun_sound' (envOf_sound (CSs.cons c40 (CSs.cons c42 (CSs.nil))) (HDs.cons (OS.Sound.hd c41) (HDs.cons (OM.Sound.hd c38) (HDs.nil))) (IDs.cons i14_39_sound (IDs.cons i14_67_sound (IDs.nil)))) rfl Try.follows (f := 14) (fn := Try.f14) Try.func14 (by kernel_rfl) (by kernel_rfl) r14_eq
end Go.Proofs.Ytefekolpfklhdaa
end

section
/- What function 16 (slipway/scan.Greatest) computes, by the kernel. -/
open Go Go.Proofs.AM
namespace Go.Proofs.Ytefekolpfklhdaa

noncomputable def m16 (x : (List ((Int × Int) × (Int × (Int × (Int × Int))))) × Unit) : Option (Int × Unit) :=
  Option.bind (loopM (X := (Int × Int)) (E := Int) (fun (x1 : (Int × Int)) =>
      bif (decide (x1.2 < (((List.length x.1) : Nat) : Int))) then
        (gd ((0 : Int) ≤ x1.2) (gd (x1.2 < (((List.length x.1) : Nat) : Int)) (Option.bind (m46 ((List.getD x.1 (Int.toNat x1.2) (((0 : Int), (0 : Int)), ((0 : Int), ((0 : Int), ((0 : Int), (0 : Int)))))).2, ())) fun (y2 : (Int × Unit)) =>
            bif (decide (y2.1 = (0 : Int))) then
              (some (Sum.inl ((if (List.getD x.1 (Int.toNat x1.2) (((0 : Int), (0 : Int)), ((0 : Int), ((0 : Int), ((0 : Int), (0 : Int)))))).2.2.2.2 > x1.1 then (List.getD x.1 (Int.toNat x1.2) (((0 : Int), (0 : Int)), ((0 : Int), ((0 : Int), ((0 : Int), (0 : Int)))))).2.2.2.2 else x1.1), (Go.IntKind.wrap .i64 (x1.2 + (1 : Int))))))
            else
              (some (Sum.inl (x1.1, (Go.IntKind.wrap .i64 (x1.2 + (1 : Int)))))))))
      else
        (some (Sum.inr x1.1))) ((0 : Int), (0 : Int))) fun (y1 : Int) =>
  some (y1, ())

noncomputable def r16 : PDen [(false, (.sl (.pair (.pair (.int .i64) (.int .i64)) (.pair (.int .i64) (.pair (.int .i64) (.pair (.int .i64) (.int .i64)))))))] → Option (PDen [(false, (.int .i64))]) := fun x => afun Try.prog (envOf [(46, ⟨[(true, (.pair (.int .i64) (.pair (.int .i64) (.pair (.int .i64) (.int .i64)))))], [(false, (.int .i64))], false, m46⟩)] [] [] []) ⟨[(0, ⟨[.slot 3 (.d false (.int .i64) true), .slot 8 (.d false (.int .i64) true)], [], [(some 0, [.slot 3 (.d false (.int .i64) true)])], none⟩)], []⟩ Try.f16 [(false, (.sl (.pair (.pair (.int .i64) (.int .i64)) (.pair (.int .i64) (.pair (.int .i64) (.pair (.int .i64) (.int .i64)))))))] [(false, (.int .i64))] false x
theorem r16_eq : r16 = m16 := by kernel_rfl

theorem c16 : CS.Sound Try.prog 16 ⟨[(false, (.sl (.pair (.pair (.int .i64) (.int .i64)) (.pair (.int .i64) (.pair (.int .i64) (.pair (.int .i64) (.int .i64)))))))], [(false, (.int .i64))], false, m16⟩ := afun_sound' (envOf_sound (CSs.cons c46 (CSs.nil)) (HDs.nil) (IDs.nil)) rfl Try.follows (f := 16) (fn := Try.f16) Try.func16 (by kernel_rfl) (by kernel_rfl) r16_eq
end Go.Proofs.Ytefekolpfklhdaa
end

section
/- What function 11 (slipway/slipwaylaw07.live) computes, by the kernel. -/
open Go Go.Proofs.AM
namespace Go.Proofs.Ytefekolpfklhdaa

noncomputable def m11 (x : Unit) : Option (Bool × Unit) :=
  Option.bind (m14 ((4 : Int), ((2 : Int), (((((7 : Int), (1 : Int)), ((1 : Int), ((5 : Int), ((3 : Int), (3 : Int))))) :: ((((9 : Int), (0 : Int)), ((2 : Int), ((5 : Int), ((4 : Int), (4 : Int))))) :: ([] : List ((Int × Int) × (Int × (Int × (Int × Int))))))), ())))) fun (y1 : ((List (Int × Int)) × Unit)) =>
  bif (decide ((((List.length y1.1) : Nat) : Int) = (8 : Int))) then
    (gd ((5 : Int) < (((List.length y1.1) : Nat) : Int)) (bif ((decide ((List.getD y1.1 (Int.toNat (5 : Int)) ((0 : Int), (0 : Int))).1 = (9 : Int))) && (decide ((List.getD y1.1 (Int.toNat (5 : Int)) ((0 : Int), (0 : Int))).2 = (0 : Int)))) then
        (gd ((0 : Int) < (((List.length y1.1) : Nat) : Int)) (bif ((decide ((List.getD y1.1 (Int.toNat (0 : Int)) ((0 : Int), (0 : Int))).1 = (-1 : Int))) && (decide ((List.getD y1.1 (Int.toNat (0 : Int)) ((0 : Int), (0 : Int))).2 = (0 : Int)))) then
            (Option.bind (m16 (((((7 : Int), (1 : Int)), ((1 : Int), ((5 : Int), ((3 : Int), (3 : Int))))) :: ((((9 : Int), (0 : Int)), ((2 : Int), ((5 : Int), ((4 : Int), (4 : Int))))) :: ([] : List ((Int × Int) × (Int × (Int × (Int × Int))))))), ())) fun (y2 : (Int × Unit)) =>
            some ((decide (y2.1 = (4 : Int))), ()))
          else
            (some (false, ()))))
      else
        (some (false, ()))))
  else
    (some (false, ()))

noncomputable def r11 : PDen [] → Option (PDen [(false, .bool)]) := fun x => afun Try.prog (envOf [(14, ⟨[(false, (.int .i64)), (false, (.int .i64)), (false, (.sl (.pair (.pair (.int .i64) (.int .i64)) (.pair (.int .i64) (.pair (.int .i64) (.pair (.int .i64) (.int .i64)))))))], [(false, (.sl (.pair (.int .i64) (.int .i64))))], false, m14⟩), (16, ⟨[(false, (.sl (.pair (.pair (.int .i64) (.int .i64)) (.pair (.int .i64) (.pair (.int .i64) (.pair (.int .i64) (.int .i64)))))))], [(false, (.int .i64))], false, m16⟩)] [] [] []) ⟨[], []⟩ Try.f11 [] [(false, .bool)] false x
theorem r11_eq : r11 = m11 := by kernel_rfl

theorem c11 : CS.Sound Try.prog 11 ⟨[], [(false, .bool)], false, m11⟩ := afun_sound' (envOf_sound (CSs.cons c14 (CSs.cons c16 (CSs.nil))) (HDs.nil) (IDs.nil)) rfl Try.follows (f := 11) (fn := Try.f11) Try.func11 (by kernel_rfl) (by kernel_rfl) r11_eq
end Go.Proofs.Ytefekolpfklhdaa
end

section
/- What function 12 (slipway/slipwaylaw07.few) computes, by the kernel. -/
open Go Go.Proofs.AM
namespace Go.Proofs.Ytefekolpfklhdaa

noncomputable def m12 (x : (Int × (Int × (Int × ((List ((Int × Int) × (Int × (Int × (Int × Int))))) × (List (Int × Int)))))) × Unit) : Option (Bool × Unit) :=
  bif (decide ((((List.length x.1.2.2.2.1) : Nat) : Int) ≤ (80 : Int))) then
    (bif (decide ((((List.length x.1.2.2.2.2) : Nat) : Int) ≤ (400 : Int))) then
      (bif (decide (x.1.2.1 ≤ (24 : Int))) then
        (some (true, ()))
      else
        (some ((decide (x.1.2.1 > (256 : Int))), ())))
    else
      (some (false, ())))
  else
    (some (false, ()))

noncomputable def r12 : PDen [(true, (.pair (.int .i64) (.pair (.int .i64) (.pair (.int .i64) (.pair (.sl (.pair (.pair (.int .i64) (.int .i64)) (.pair (.int .i64) (.pair (.int .i64) (.pair (.int .i64) (.int .i64)))))) (.sl (.pair (.int .i64) (.int .i64))))))))] → Option (PDen [(false, .bool)]) := fun x => afun Try.prog (envOf [] [] [] []) ⟨[], []⟩ Try.f12 [(true, (.pair (.int .i64) (.pair (.int .i64) (.pair (.int .i64) (.pair (.sl (.pair (.pair (.int .i64) (.int .i64)) (.pair (.int .i64) (.pair (.int .i64) (.pair (.int .i64) (.int .i64)))))) (.sl (.pair (.int .i64) (.int .i64))))))))] [(false, .bool)] false x
theorem r12_eq : r12 = m12 := by kernel_rfl

theorem c12 : CS.Sound Try.prog 12 ⟨[(true, (.pair (.int .i64) (.pair (.int .i64) (.pair (.int .i64) (.pair (.sl (.pair (.pair (.int .i64) (.int .i64)) (.pair (.int .i64) (.pair (.int .i64) (.pair (.int .i64) (.int .i64)))))) (.sl (.pair (.int .i64) (.int .i64))))))))], [(false, .bool)], false, m12⟩ := afun_sound' (envOf_sound (CSs.nil) (HDs.nil) (IDs.nil)) rfl Try.follows (f := 12) (fn := Try.f12) Try.func12 (by kernel_rfl) (by kernel_rfl) r12_eq
end Go.Proofs.Ytefekolpfklhdaa
end

section
/- What function 51 (slipway/slipwayref05.seq) computes, by the kernel. -/
open Go Go.Proofs.AM
namespace Go.Proofs.Ytefekolpfklhdaa

noncomputable def m51 (x : (Int × (Int × (Int × ((List Int) × ((List Bool) × ((Int × (Int × Int)) × (List (Int × (List Int))))))))) × Unit) : Option (Bool × Unit) :=
  bif (decide (x.1.2.2.2.2.2.1.1 < (0 : Int))) then
    (bif (decide (x.1.2.2.2.2.2.1.1 = (-1 : Int))) then
      (bif (decide (x.1.2.2.2.2.2.1.2.1 = (0 : Int))) then
        (some ((decide (x.1.2.2.2.2.2.1.2.2 = (0 : Int))), ()))
      else
        (some (false, ())))
    else
      (some (false, ())))
  else
    (bif (decide (x.1.2.2.2.2.2.1.2.1 ≥ (0 : Int))) then
      (bif (decide (x.1.2.2.2.2.2.1.2.1 < x.1.2.1)) then
        (bif (decide (x.1.2.2.2.2.2.1.2.2 ≥ (0 : Int))) then
          (some ((decide (x.1.2.2.2.2.2.1.2.2 ≤ x.1.1)), ()))
        else
          (some (false, ())))
      else
        (some (false, ())))
    else
      (some (false, ())))

noncomputable def r51 : PDen [(true, (.pair (.int .i64) (.pair (.int .i64) (.pair (.int .i64) (.pair (.sl (.int .i64)) (.pair (.sl .bool) (.pair (.pair (.int .i64) (.pair (.int .i64) (.int .i64))) (.sl (.pair (.int .i64) (.sl (.int .i64)))))))))))] → Option (PDen [(false, .bool)]) := fun x => afun Try.prog (envOf [] [] [] []) ⟨[], []⟩ Try.f51 [(true, (.pair (.int .i64) (.pair (.int .i64) (.pair (.int .i64) (.pair (.sl (.int .i64)) (.pair (.sl .bool) (.pair (.pair (.int .i64) (.pair (.int .i64) (.int .i64))) (.sl (.pair (.int .i64) (.sl (.int .i64)))))))))))] [(false, .bool)] false x
theorem r51_eq : r51 = m51 := by kernel_rfl

theorem c51 : CS.Sound Try.prog 51 ⟨[(true, (.pair (.int .i64) (.pair (.int .i64) (.pair (.int .i64) (.pair (.sl (.int .i64)) (.pair (.sl .bool) (.pair (.pair (.int .i64) (.pair (.int .i64) (.int .i64))) (.sl (.pair (.int .i64) (.sl (.int .i64)))))))))))], [(false, .bool)], false, m51⟩ := afun_sound' (envOf_sound (CSs.nil) (HDs.nil) (IDs.nil)) rfl Try.follows (f := 51) (fn := Try.f51) Try.func51 (by kernel_rfl) (by kernel_rfl) r51_eq
end Go.Proofs.Ytefekolpfklhdaa
end

section
/- What function 52 (slipway/slipwayref05.logs) computes, by the kernel. -/
open Go Go.Proofs.AM
namespace Go.Proofs.Ytefekolpfklhdaa

noncomputable def m52 (x : (Int × (Int × (Int × ((List Int) × ((List Bool) × ((Int × (Int × Int)) × (List (Int × (List Int))))))))) × Unit) : Option (Bool × Unit) :=
  bif (decide ((((List.length x.1.2.2.2.2.2.2) : Nat) : Int) > x.1.2.2.1)) then
    (some (false, ()))
  else
    (gd ((0 : Int) ≤ (Go.IntKind.wrap .i64 (x.1.1 * x.1.2.1))) (gd ((Go.IntKind.wrap .i64 (x.1.1 * x.1.2.1)) ≤ (Go.IntKind.wrap .i64 (x.1.1 * x.1.2.1))) (gd (((Go.IntKind.wrap .i64 (x.1.1 * x.1.2.1)) * (1 : Int)) ≤ (140737488355328 : Int)) (Option.bind (loopM (X := (Int × (List Bool))) (E := ((List Bool) ⊕ (Bool × (List Bool)))) (fun (x1 : (Int × (List Bool))) =>
              bif (decide (x1.1 < (((List.length x.1.2.2.2.2.2.2) : Nat) : Int))) then
                (gd ((0 : Int) ≤ x1.1) (gd (x1.1 < (((List.length x.1.2.2.2.2.2.2) : Nat) : Int)) (bif (decide ((List.getD x.1.2.2.2.2.2.2 (Int.toNat x1.1) ((0 : Int), ([] : List Int))).1 < (0 : Int))) then
                      (some (Sum.inr (Sum.inr (false, x1.2))))
                    else
                      (bif (decide ((((List.length (List.getD x.1.2.2.2.2.2.2 (Int.toNat x1.1) ((0 : Int), ([] : List Int))).2) : Nat) : Int) > x.1.1)) then
                        (some (Sum.inr (Sum.inr (false, x1.2))))
                      else
                        (bif (decide (x1.1 < (Go.IntKind.wrap .i64 ((((List.length x.1.2.2.2.2.2.2) : Nat) : Int) - (1 : Int))))) then
                          (bif (!(decide ((((List.length (List.getD x.1.2.2.2.2.2.2 (Int.toNat x1.1) ((0 : Int), ([] : List Int))).2) : Nat) : Int) = x.1.1))) then
                            (some (Sum.inr (Sum.inr (false, x1.2))))
                          else
                            (Option.bind (loopM (X := (Int × (List Bool))) (E := ((List Bool) ⊕ (Bool × (List Bool)))) (fun (x2 : (Int × (List Bool))) =>
                                bif (decide (x2.1 < (((List.length (List.getD x.1.2.2.2.2.2.2 (Int.toNat x1.1) ((0 : Int), ([] : List Int))).2) : Nat) : Int))) then
                                  (gd ((0 : Int) ≤ x2.1) (gd (x2.1 < (((List.length (List.getD x.1.2.2.2.2.2.2 (Int.toNat x1.1) ((0 : Int), ([] : List Int))).2) : Nat) : Int)) (bif (decide ((List.getD (List.getD x.1.2.2.2.2.2.2 (Int.toNat x1.1) ((0 : Int), ([] : List Int))).2 (Int.toNat x2.1) (0 : Int)) < (-1 : Int))) then
                                        (some (Sum.inr (Sum.inr (false, x2.2))))
                                      else
                                        (bif (decide ((List.getD (List.getD x.1.2.2.2.2.2.2 (Int.toNat x1.1) ((0 : Int), ([] : List Int))).2 (Int.toNat x2.1) (0 : Int)) ≥ (Go.IntKind.wrap .i64 (x.1.1 * x.1.2.1)))) then
                                          (some (Sum.inr (Sum.inr (false, x2.2))))
                                        else
                                          (bif (decide ((List.getD (List.getD x.1.2.2.2.2.2.2 (Int.toNat x1.1) ((0 : Int), ([] : List Int))).2 (Int.toNat x2.1) (0 : Int)) ≥ (0 : Int))) then
                                            (gd ((0 : Int) ≤ (List.getD (List.getD x.1.2.2.2.2.2.2 (Int.toNat x1.1) ((0 : Int), ([] : List Int))).2 (Int.toNat x2.1) (0 : Int))) (gd ((List.getD (List.getD x.1.2.2.2.2.2.2 (Int.toNat x1.1) ((0 : Int), ([] : List Int))).2 (Int.toNat x2.1) (0 : Int)) < (((List.length x2.2) : Nat) : Int)) (gd ((Int.toNat (List.getD (List.getD x.1.2.2.2.2.2.2 (Int.toNat x1.1) ((0 : Int), ([] : List Int))).2 (Int.toNat x2.1) (0 : Int))) < (List.length x2.2)) (bif (List.getD x2.2 (Int.toNat (List.getD (List.getD x.1.2.2.2.2.2.2 (Int.toNat x1.1) ((0 : Int), ([] : List Int))).2 (Int.toNat x2.1) (0 : Int))) false) then
                                                    (some (Sum.inr (Sum.inr (false, x2.2))))
                                                  else
                                                    (bif (decide ((List.getD (List.getD x.1.2.2.2.2.2.2 (Int.toNat x1.1) ((0 : Int), ([] : List Int))).2 (Int.toNat x2.1) (0 : Int)) ≥ (0 : Int))) then
                                                      (gd ((0 : Int) ≤ (List.getD (List.getD x.1.2.2.2.2.2.2 (Int.toNat x1.1) ((0 : Int), ([] : List Int))).2 (Int.toNat x2.1) (0 : Int))) (gd ((List.getD (List.getD x.1.2.2.2.2.2.2 (Int.toNat x1.1) ((0 : Int), ([] : List Int))).2 (Int.toNat x2.1) (0 : Int)) < (((List.length x2.2) : Nat) : Int)) (gd ((Int.toNat (List.getD (List.getD x.1.2.2.2.2.2.2 (Int.toNat x1.1) ((0 : Int), ([] : List Int))).2 (Int.toNat x2.1) (0 : Int))) < (List.length x2.2)) (some (Sum.inl ((Go.IntKind.wrap .i64 (x2.1 + (1 : Int))), (List.set x2.2 (Int.toNat (List.getD (List.getD x.1.2.2.2.2.2.2 (Int.toNat x1.1) ((0 : Int), ([] : List Int))).2 (Int.toNat x2.1) (0 : Int))) true)))))))
                                                    else
                                                      (some (Sum.inl ((Go.IntKind.wrap .i64 (x2.1 + (1 : Int))), x2.2))))))))
                                          else
                                            (bif (decide ((List.getD (List.getD x.1.2.2.2.2.2.2 (Int.toNat x1.1) ((0 : Int), ([] : List Int))).2 (Int.toNat x2.1) (0 : Int)) ≥ (0 : Int))) then
                                              (gd ((0 : Int) ≤ (List.getD (List.getD x.1.2.2.2.2.2.2 (Int.toNat x1.1) ((0 : Int), ([] : List Int))).2 (Int.toNat x2.1) (0 : Int))) (gd ((List.getD (List.getD x.1.2.2.2.2.2.2 (Int.toNat x1.1) ((0 : Int), ([] : List Int))).2 (Int.toNat x2.1) (0 : Int)) < (((List.length x2.2) : Nat) : Int)) (gd ((Int.toNat (List.getD (List.getD x.1.2.2.2.2.2.2 (Int.toNat x1.1) ((0 : Int), ([] : List Int))).2 (Int.toNat x2.1) (0 : Int))) < (List.length x2.2)) (some (Sum.inl ((Go.IntKind.wrap .i64 (x2.1 + (1 : Int))), (List.set x2.2 (Int.toNat (List.getD (List.getD x.1.2.2.2.2.2.2 (Int.toNat x1.1) ((0 : Int), ([] : List Int))).2 (Int.toNat x2.1) (0 : Int))) true)))))))
                                            else
                                              (some (Sum.inl ((Go.IntKind.wrap .i64 (x2.1 + (1 : Int))), x2.2)))))))))
                                else
                                  (some (Sum.inr (Sum.inl x2.2)))) ((0 : Int), x1.2)) fun (y2 : ((List Bool) ⊕ (Bool × (List Bool)))) =>
                            Sum.elim (fun y3 =>
                              some (Sum.inl ((Go.IntKind.wrap .i64 (x1.1 + (1 : Int))), y3))) (fun y3 =>
                              some (Sum.inr (Sum.inr (y3.1, y3.2)))) y2))
                        else
                          (Option.bind (loopM (X := (Int × (List Bool))) (E := ((List Bool) ⊕ (Bool × (List Bool)))) (fun (x2 : (Int × (List Bool))) =>
                              bif (decide (x2.1 < (((List.length (List.getD x.1.2.2.2.2.2.2 (Int.toNat x1.1) ((0 : Int), ([] : List Int))).2) : Nat) : Int))) then
                                (gd ((0 : Int) ≤ x2.1) (gd (x2.1 < (((List.length (List.getD x.1.2.2.2.2.2.2 (Int.toNat x1.1) ((0 : Int), ([] : List Int))).2) : Nat) : Int)) (bif (decide ((List.getD (List.getD x.1.2.2.2.2.2.2 (Int.toNat x1.1) ((0 : Int), ([] : List Int))).2 (Int.toNat x2.1) (0 : Int)) < (-1 : Int))) then
                                      (some (Sum.inr (Sum.inr (false, x2.2))))
                                    else
                                      (bif (decide ((List.getD (List.getD x.1.2.2.2.2.2.2 (Int.toNat x1.1) ((0 : Int), ([] : List Int))).2 (Int.toNat x2.1) (0 : Int)) ≥ (Go.IntKind.wrap .i64 (x.1.1 * x.1.2.1)))) then
                                        (some (Sum.inr (Sum.inr (false, x2.2))))
                                      else
                                        (bif (decide ((List.getD (List.getD x.1.2.2.2.2.2.2 (Int.toNat x1.1) ((0 : Int), ([] : List Int))).2 (Int.toNat x2.1) (0 : Int)) ≥ (0 : Int))) then
                                          (gd ((0 : Int) ≤ (List.getD (List.getD x.1.2.2.2.2.2.2 (Int.toNat x1.1) ((0 : Int), ([] : List Int))).2 (Int.toNat x2.1) (0 : Int))) (gd ((List.getD (List.getD x.1.2.2.2.2.2.2 (Int.toNat x1.1) ((0 : Int), ([] : List Int))).2 (Int.toNat x2.1) (0 : Int)) < (((List.length x2.2) : Nat) : Int)) (gd ((Int.toNat (List.getD (List.getD x.1.2.2.2.2.2.2 (Int.toNat x1.1) ((0 : Int), ([] : List Int))).2 (Int.toNat x2.1) (0 : Int))) < (List.length x2.2)) (bif (List.getD x2.2 (Int.toNat (List.getD (List.getD x.1.2.2.2.2.2.2 (Int.toNat x1.1) ((0 : Int), ([] : List Int))).2 (Int.toNat x2.1) (0 : Int))) false) then
                                                  (some (Sum.inr (Sum.inr (false, x2.2))))
                                                else
                                                  (bif (decide ((List.getD (List.getD x.1.2.2.2.2.2.2 (Int.toNat x1.1) ((0 : Int), ([] : List Int))).2 (Int.toNat x2.1) (0 : Int)) ≥ (0 : Int))) then
                                                    (gd ((0 : Int) ≤ (List.getD (List.getD x.1.2.2.2.2.2.2 (Int.toNat x1.1) ((0 : Int), ([] : List Int))).2 (Int.toNat x2.1) (0 : Int))) (gd ((List.getD (List.getD x.1.2.2.2.2.2.2 (Int.toNat x1.1) ((0 : Int), ([] : List Int))).2 (Int.toNat x2.1) (0 : Int)) < (((List.length x2.2) : Nat) : Int)) (gd ((Int.toNat (List.getD (List.getD x.1.2.2.2.2.2.2 (Int.toNat x1.1) ((0 : Int), ([] : List Int))).2 (Int.toNat x2.1) (0 : Int))) < (List.length x2.2)) (some (Sum.inl ((Go.IntKind.wrap .i64 (x2.1 + (1 : Int))), (List.set x2.2 (Int.toNat (List.getD (List.getD x.1.2.2.2.2.2.2 (Int.toNat x1.1) ((0 : Int), ([] : List Int))).2 (Int.toNat x2.1) (0 : Int))) true)))))))
                                                  else
                                                    (some (Sum.inl ((Go.IntKind.wrap .i64 (x2.1 + (1 : Int))), x2.2))))))))
                                        else
                                          (bif (decide ((List.getD (List.getD x.1.2.2.2.2.2.2 (Int.toNat x1.1) ((0 : Int), ([] : List Int))).2 (Int.toNat x2.1) (0 : Int)) ≥ (0 : Int))) then
                                            (gd ((0 : Int) ≤ (List.getD (List.getD x.1.2.2.2.2.2.2 (Int.toNat x1.1) ((0 : Int), ([] : List Int))).2 (Int.toNat x2.1) (0 : Int))) (gd ((List.getD (List.getD x.1.2.2.2.2.2.2 (Int.toNat x1.1) ((0 : Int), ([] : List Int))).2 (Int.toNat x2.1) (0 : Int)) < (((List.length x2.2) : Nat) : Int)) (gd ((Int.toNat (List.getD (List.getD x.1.2.2.2.2.2.2 (Int.toNat x1.1) ((0 : Int), ([] : List Int))).2 (Int.toNat x2.1) (0 : Int))) < (List.length x2.2)) (some (Sum.inl ((Go.IntKind.wrap .i64 (x2.1 + (1 : Int))), (List.set x2.2 (Int.toNat (List.getD (List.getD x.1.2.2.2.2.2.2 (Int.toNat x1.1) ((0 : Int), ([] : List Int))).2 (Int.toNat x2.1) (0 : Int))) true)))))))
                                          else
                                            (some (Sum.inl ((Go.IntKind.wrap .i64 (x2.1 + (1 : Int))), x2.2)))))))))
                              else
                                (some (Sum.inr (Sum.inl x2.2)))) ((0 : Int), x1.2)) fun (y2 : ((List Bool) ⊕ (Bool × (List Bool)))) =>
                          Sum.elim (fun y3 =>
                            some (Sum.inl ((Go.IntKind.wrap .i64 (x1.1 + (1 : Int))), y3))) (fun y3 =>
                            some (Sum.inr (Sum.inr (y3.1, y3.2)))) y2))))))
              else
                (some (Sum.inr (Sum.inl x1.2)))) ((0 : Int), (List.replicate (Int.toNat (Go.IntKind.wrap .i64 (x.1.1 * x.1.2.1))) false))) fun (y1 : ((List Bool) ⊕ (Bool × (List Bool)))) =>
          Sum.elim (fun y2 =>
            some (true, ())) (fun y2 =>
            some (y2.1, ())) y1))))

noncomputable def r52 : PDen [(true, (.pair (.int .i64) (.pair (.int .i64) (.pair (.int .i64) (.pair (.sl (.int .i64)) (.pair (.sl .bool) (.pair (.pair (.int .i64) (.pair (.int .i64) (.int .i64))) (.sl (.pair (.int .i64) (.sl (.int .i64)))))))))))] → Option (PDen [(false, .bool)]) := fun x => afun Try.prog (envOf [] [] [] []) ⟨[(0, ⟨[.slot 4 (.d false (.int .i64) true), .vec 1 4 .bool true], [], [(some 0, [.vec 1 4 .bool true]), (none, [.slot 2 (.d false .bool true), .vec 1 4 .bool true])], none⟩), (2, ⟨[.slot 6 (.d false (.int .i64) true), .vec 1 4 .bool true], [], [(some 2, [.vec 1 4 .bool true]), (none, [.slot 2 (.d false .bool true), .vec 1 4 .bool true])], none⟩)], []⟩ Try.f52 [(true, (.pair (.int .i64) (.pair (.int .i64) (.pair (.int .i64) (.pair (.sl (.int .i64)) (.pair (.sl .bool) (.pair (.pair (.int .i64) (.pair (.int .i64) (.int .i64))) (.sl (.pair (.int .i64) (.sl (.int .i64)))))))))))] [(false, .bool)] false x
theorem r52_eq : r52 = m52 := by kernel_rfl

theorem c52 : CS.Sound Try.prog 52 ⟨[(true, (.pair (.int .i64) (.pair (.int .i64) (.pair (.int .i64) (.pair (.sl (.int .i64)) (.pair (.sl .bool) (.pair (.pair (.int .i64) (.pair (.int .i64) (.int .i64))) (.sl (.pair (.int .i64) (.sl (.int .i64)))))))))))], [(false, .bool)], false, m52⟩ := afun_sound' (envOf_sound (CSs.nil) (HDs.nil) (IDs.nil)) rfl Try.follows (f := 52) (fn := Try.f52) Try.func52 (by kernel_rfl) (by kernel_rfl) r52_eq
end Go.Proofs.Ytefekolpfklhdaa
end

section
/- What function 53 (slipway/slipwayref05.list) computes, by the kernel. -/
open Go Go.Proofs.AM
namespace Go.Proofs.Ytefekolpfklhdaa

noncomputable def m53 (x : (Int × (Int × (Int × ((List Int) × ((List Bool) × ((Int × (Int × Int)) × (List (Int × (List Int))))))))) × Unit) : Option ((List Int) × Unit) :=
  Option.bind (loopM (X := ((List Int) × Int)) (E := (List Int)) (fun (x1 : ((List Int) × Int)) =>
      bif (decide (x1.2 < (((List.length x.1.2.2.2.1) : Nat) : Int))) then
        (gd ((0 : Int) ≤ x1.2) (gd (x1.2 < (((List.length x.1.2.2.2.1) : Nat) : Int)) (bif (decide ((List.getD x.1.2.2.2.1 (Int.toNat x1.2) (0 : Int)) ≥ (0 : Int))) then
              (gd ((0 : Int) ≤ x1.2) (gd (x1.2 < (((List.length x.1.2.2.2.1) : Nat) : Int)) (gd ((((List.length x1.1) + (List.length ((List.getD x.1.2.2.2.1 (Int.toNat x1.2) (0 : Int)) :: ([] : List Int)))) * 8) ≤ 140737488355328) (gd (((List.length x1.1) + (List.length ((List.getD x.1.2.2.2.1 (Int.toNat x1.2) (0 : Int)) :: ([] : List Int)))) ≤ 140737488355328) (some (Sum.inl ((x1.1 ++ ((List.getD x.1.2.2.2.1 (Int.toNat x1.2) (0 : Int)) :: ([] : List Int))), (Go.IntKind.wrap .i64 (x1.2 + (1 : Int))))))))))
            else
              (some (Sum.inl (x1.1, (Go.IntKind.wrap .i64 (x1.2 + (1 : Int)))))))))
      else
        (some (Sum.inr x1.1))) (([] : List Int), (0 : Int))) fun (y1 : (List Int)) =>
  bif (decide (x.1.2.2.2.2.2.1.1 ≥ (0 : Int))) then
    (gd ((((List.length y1) + (List.length (x.1.2.2.2.2.2.1.1 :: ([] : List Int)))) * 8) ≤ 140737488355328) (gd (((List.length y1) + (List.length (x.1.2.2.2.2.2.1.1 :: ([] : List Int)))) ≤ 140737488355328) (Option.bind (loopM (X := ((List Int) × Int)) (E := (List Int)) (fun (x2 : ((List Int) × Int)) =>
            bif (decide (x2.2 < (((List.length x.1.2.2.2.2.2.2) : Nat) : Int))) then
              (gd ((0 : Int) ≤ x2.2) (gd (x2.2 < (((List.length x.1.2.2.2.2.2.2) : Nat) : Int)) (gd ((((List.length x2.1) + (List.length ((List.getD x.1.2.2.2.2.2.2 (Int.toNat x2.2) ((0 : Int), ([] : List Int))).1 :: ([] : List Int)))) * 8) ≤ 140737488355328) (gd (((List.length x2.1) + (List.length ((List.getD x.1.2.2.2.2.2.2 (Int.toNat x2.2) ((0 : Int), ([] : List Int))).1 :: ([] : List Int)))) ≤ 140737488355328) (some (Sum.inl ((x2.1 ++ ((List.getD x.1.2.2.2.2.2.2 (Int.toNat x2.2) ((0 : Int), ([] : List Int))).1 :: ([] : List Int))), (Go.IntKind.wrap .i64 (x2.2 + (1 : Int))))))))))
            else
              (some (Sum.inr x2.1))) ((y1 ++ (x.1.2.2.2.2.2.1.1 :: ([] : List Int))), (0 : Int))) fun (y2 : (List Int)) =>
        some (y2, ()))))
  else
    (Option.bind (loopM (X := ((List Int) × Int)) (E := (List Int)) (fun (x2 : ((List Int) × Int)) =>
        bif (decide (x2.2 < (((List.length x.1.2.2.2.2.2.2) : Nat) : Int))) then
          (gd ((0 : Int) ≤ x2.2) (gd (x2.2 < (((List.length x.1.2.2.2.2.2.2) : Nat) : Int)) (gd ((((List.length x2.1) + (List.length ((List.getD x.1.2.2.2.2.2.2 (Int.toNat x2.2) ((0 : Int), ([] : List Int))).1 :: ([] : List Int)))) * 8) ≤ 140737488355328) (gd (((List.length x2.1) + (List.length ((List.getD x.1.2.2.2.2.2.2 (Int.toNat x2.2) ((0 : Int), ([] : List Int))).1 :: ([] : List Int)))) ≤ 140737488355328) (some (Sum.inl ((x2.1 ++ ((List.getD x.1.2.2.2.2.2.2 (Int.toNat x2.2) ((0 : Int), ([] : List Int))).1 :: ([] : List Int))), (Go.IntKind.wrap .i64 (x2.2 + (1 : Int))))))))))
        else
          (some (Sum.inr x2.1))) (y1, (0 : Int))) fun (y2 : (List Int)) =>
    some (y2, ()))

noncomputable def r53 : PDen [(true, (.pair (.int .i64) (.pair (.int .i64) (.pair (.int .i64) (.pair (.sl (.int .i64)) (.pair (.sl .bool) (.pair (.pair (.int .i64) (.pair (.int .i64) (.int .i64))) (.sl (.pair (.int .i64) (.sl (.int .i64)))))))))))] → Option (PDen [(false, (.sl (.int .i64)))]) := fun x => afun Try.prog (envOf [] [] [] []) ⟨[(2000, ⟨[.slot 3 (.v 3 (.int .i64) true), .slot 4 (.d false (.int .i64) true)], [], [(some 0, [.slot 3 (.v 3 (.int .i64) true)])], none⟩), (3002, ⟨[.slot 3 (.v 3 (.int .i64) true), .slot 5 (.d false (.int .i64) true)], [1], [(some 2, [.slot 3 (.v 3 (.int .i64) true)])], none⟩), (5002, ⟨[.slot 3 (.v 3 (.int .i64) true), .slot 5 (.d false (.int .i64) true)], [3], [(some 2, [.slot 3 (.v 3 (.int .i64) true)])], none⟩)], []⟩ Try.f53 [(true, (.pair (.int .i64) (.pair (.int .i64) (.pair (.int .i64) (.pair (.sl (.int .i64)) (.pair (.sl .bool) (.pair (.pair (.int .i64) (.pair (.int .i64) (.int .i64))) (.sl (.pair (.int .i64) (.sl (.int .i64)))))))))))] [(false, (.sl (.int .i64)))] false x
theorem r53_eq : r53 = m53 := by kernel_rfl

theorem c53 : CS.Sound Try.prog 53 ⟨[(true, (.pair (.int .i64) (.pair (.int .i64) (.pair (.int .i64) (.pair (.sl (.int .i64)) (.pair (.sl .bool) (.pair (.pair (.int .i64) (.pair (.int .i64) (.int .i64))) (.sl (.pair (.int .i64) (.sl (.int .i64)))))))))))], [(false, (.sl (.int .i64)))], false, m53⟩ := afun_sound' (envOf_sound (CSs.nil) (HDs.nil) (IDs.nil)) rfl Try.follows (f := 53) (fn := Try.f53) Try.func53 (by kernel_rfl) (by kernel_rfl) r53_eq
end Go.Proofs.Ytefekolpfklhdaa
end

section
/- What function 43 (slipway/slipwayref05.New) computes, by the kernel. -/
open Go Go.Proofs.AM
namespace Go.Proofs.Ytefekolpfklhdaa

noncomputable def m43 (x : Int × Int × Int × Unit) : Option ((Int × (Int × (Int × ((List Int) × ((List Bool) × ((Int × (Int × Int)) × (List (Int × (List Int))))))))) × (Int × Unit)) :=
  bif (decide (x.1 < (4 : Int))) then
    (some (((0 : Int), ((0 : Int), ((0 : Int), (([] : List Int), (([] : List Bool), (((0 : Int), ((0 : Int), (0 : Int))), ([] : List (Int × (List Int))))))))), ((1 : Int), ())))
  else
    (bif (decide (x.1 > (32 : Int))) then
      (some (((0 : Int), ((0 : Int), ((0 : Int), (([] : List Int), (([] : List Bool), (((0 : Int), ((0 : Int), (0 : Int))), ([] : List (Int × (List Int))))))))), ((1 : Int), ())))
    else
      (bif (decide (x.2.1 < (1 : Int))) then
        (some (((0 : Int), ((0 : Int), ((0 : Int), (([] : List Int), (([] : List Bool), (((0 : Int), ((0 : Int), (0 : Int))), ([] : List (Int × (List Int))))))))), ((1 : Int), ())))
      else
        (bif (decide (x.2.1 > (256 : Int))) then
          (some (((0 : Int), ((0 : Int), ((0 : Int), (([] : List Int), (([] : List Bool), (((0 : Int), ((0 : Int), (0 : Int))), ([] : List (Int × (List Int))))))))), ((1 : Int), ())))
        else
          (bif (decide (x.2.2.1 < (1 : Int))) then
            (some (((0 : Int), ((0 : Int), ((0 : Int), (([] : List Int), (([] : List Bool), (((0 : Int), ((0 : Int), (0 : Int))), ([] : List (Int × (List Int))))))))), ((1 : Int), ())))
          else
            (bif (decide (x.2.2.1 > (8 : Int))) then
              (some (((0 : Int), ((0 : Int), ((0 : Int), (([] : List Int), (([] : List Bool), (((0 : Int), ((0 : Int), (0 : Int))), ([] : List (Int × (List Int))))))))), ((1 : Int), ())))
            else
              (Option.bind (loopM (X := (Int × (Int × (Int × (Int × ((List Int) × ((List Bool) × (Int × (Int × (Int × (List (Int × (List Int))))))))))))) (E := (Int × (Int × (Int × ((List Int) × ((List Bool) × (Int × (Int × (Int × (List (Int × (List Int)))))))))))) (fun (x1 : (Int × (Int × (Int × (Int × ((List Int) × ((List Bool) × (Int × (Int × (Int × (List (Int × (List Int))))))))))))) =>
                  bif (decide (x1.1 < x.2.1)) then
                    (gd ((((List.length x1.2.2.2.2.1) + (List.length ((-1 : Int) :: ([] : List Int)))) * 8) ≤ 140737488355328) (gd (((List.length x1.2.2.2.2.1) + (List.length ((-1 : Int) :: ([] : List Int)))) ≤ 140737488355328) (some (Sum.inl ((Go.IntKind.wrap .i64 (x1.1 + (1 : Int))), (x1.2.1, (x1.2.2.1, (x1.2.2.2.1, ((x1.2.2.2.2.1 ++ ((-1 : Int) :: ([] : List Int))), (x1.2.2.2.2.2.1, (x1.2.2.2.2.2.2.1, (x1.2.2.2.2.2.2.2.1, (x1.2.2.2.2.2.2.2.2.1, x1.2.2.2.2.2.2.2.2.2)))))))))))))
                  else
                    (some (Sum.inr (x1.2.1, (x1.2.2.1, (x1.2.2.2.1, (x1.2.2.2.2.1, (x1.2.2.2.2.2.1, (x1.2.2.2.2.2.2.1, (x1.2.2.2.2.2.2.2.1, (x1.2.2.2.2.2.2.2.2.1, x1.2.2.2.2.2.2.2.2.2))))))))))) ((0 : Int), (x.1, (x.2.1, (x.2.2.1, (([] : List Int), (([] : List Bool), ((0 : Int), ((0 : Int), ((0 : Int), ([] : List (Int × (List Int))))))))))))) fun (y1 : (Int × (Int × (Int × ((List Int) × ((List Bool) × (Int × (Int × (Int × (List (Int × (List Int)))))))))))) =>
              gd ((0 : Int) ≤ (Go.IntKind.wrap .i64 (x.1 * x.2.1))) (gd ((Go.IntKind.wrap .i64 (x.1 * x.2.1)) ≤ (Go.IntKind.wrap .i64 (x.1 * x.2.1))) (gd (((Go.IntKind.wrap .i64 (x.1 * x.2.1)) * (1 : Int)) ≤ (140737488355328 : Int)) (some ((y1.1, (y1.2.1, (y1.2.2.1, (y1.2.2.2.1, ((List.replicate (Int.toNat (Go.IntKind.wrap .i64 (x.1 * x.2.1))) false), (((-1 : Int), (y1.2.2.2.2.2.2.1, y1.2.2.2.2.2.2.2.1)), y1.2.2.2.2.2.2.2.2)))))), ((0 : Int), ())))))))))))

noncomputable def r43 : PDen [(false, (.int .i64)), (false, (.int .i64)), (false, (.int .i64))] → Option (PDen [(true, (.pair (.int .i64) (.pair (.int .i64) (.pair (.int .i64) (.pair (.sl (.int .i64)) (.pair (.sl .bool) (.pair (.pair (.int .i64) (.pair (.int .i64) (.int .i64))) (.sl (.pair (.int .i64) (.sl (.int .i64))))))))))), (false, (.int .i64))]) := fun x => afunM Try.prog (envOf [] [] [] []) ⟨[(0, ⟨[.slot 9 (.d false (.int .i64) true), .cell 1 0 (.d false (.int .i64) true), .cell 1 1 (.d false (.int .i64) true), .cell 1 2 (.d false (.int .i64) true), .cell 1 3 (.v 3 (.int .i64) true), .cell 1 4 (.d false (.sl .bool) false), .cell 1 5 (.d false (.int .i64) true), .cell 1 6 (.d false (.int .i64) true), .cell 1 7 (.d false (.int .i64) true), .cell 1 8 (.d false (.sl (.pair (.int .i64) (.sl (.int .i64)))) false)], [], [(some 0, [.cell 1 0 (.d false (.int .i64) true), .cell 1 1 (.d false (.int .i64) true), .cell 1 2 (.d false (.int .i64) true), .cell 1 3 (.v 3 (.int .i64) true), .cell 1 4 (.d false (.sl .bool) false), .cell 1 5 (.d false (.int .i64) true), .cell 1 6 (.d false (.int .i64) true), .cell 1 7 (.d false (.int .i64) true), .cell 1 8 (.d false (.sl (.pair (.int .i64) (.sl (.int .i64)))) false)])], none⟩)], []⟩ Try.f43 [(false, (.int .i64)), (false, (.int .i64)), (false, (.int .i64))] [(true, (.pair (.int .i64) (.pair (.int .i64) (.pair (.int .i64) (.pair (.sl (.int .i64)) (.pair (.sl .bool) (.pair (.pair (.int .i64) (.pair (.int .i64) (.int .i64))) (.sl (.pair (.int .i64) (.sl (.int .i64))))))))))), (false, (.int .i64))] [(.p .d (.p .d (.p .d (.p (.s 3) (.p (.s 4) .d))))), .d] true x
theorem r43_eq : r43 = m43 := by kernel_rfl

theorem c43 : OM.Sound Try.prog 43 ⟨[(false, (.int .i64)), (false, (.int .i64)), (false, (.int .i64))], [(true, (.pair (.int .i64) (.pair (.int .i64) (.pair (.int .i64) (.pair (.sl (.int .i64)) (.pair (.sl .bool) (.pair (.pair (.int .i64) (.pair (.int .i64) (.int .i64))) (.sl (.pair (.int .i64) (.sl (.int .i64))))))))))), (false, (.int .i64))], [(.p .d (.p .d (.p .d (.p (.s 3) (.p (.s 4) .d))))), .d], true, m43⟩ := afunM_sound' (envOf_sound (CSs.nil) (HDs.nil) (IDs.nil)) rfl Try.follows (f := 43) (fn := Try.f43) Try.func43 (by kernel_rfl) (by kernel_rfl) r43_eq
end Go.Proofs.Ytefekolpfklhdaa
end

section
/- What function 23 (slipway/slipwayref05.Check) computes, by the kernel. -/
open Go Go.Proofs.AM
namespace Go.Proofs.Ytefekolpfklhdaa

noncomputable def m23 (x : (Int × (Int × (Int × ((List Int) × ((List Bool) × ((Int × (Int × Int)) × (List (Int × (List Int))))))))) × Unit) : Option (Int × Unit) :=
  Option.bind (m43 (x.1.1, (x.1.2.1, (x.1.2.2.1, ())))) fun (y1 : ((Int × (Int × (Int × ((List Int) × ((List Bool) × ((Int × (Int × Int)) × (List (Int × (List Int))))))))) × (Int × Unit))) =>
  bif (!(decide (y1.2.1 = (0 : Int)))) then
    (some ((50 : Int), ()))
  else
    (bif (!(decide ((((List.length x.1.2.2.2.1) : Nat) : Int) = x.1.2.1))) then
      (some ((50 : Int), ()))
    else
      (bif (!(decide ((((List.length x.1.2.2.2.2.1) : Nat) : Int) = (Go.IntKind.wrap .i64 (x.1.2.1 * x.1.1))))) then
        (some ((50 : Int), ()))
      else
        (Option.bind (loopM (X := Int) (E := (Unit ⊕ Int)) (fun (x2 : Int) =>
            bif (decide (x2 < (((List.length x.1.2.2.2.1) : Nat) : Int))) then
              (gd ((0 : Int) ≤ x2) (gd (x2 < (((List.length x.1.2.2.2.1) : Nat) : Int)) (bif (decide ((List.getD x.1.2.2.2.1 (Int.toNat x2) (0 : Int)) < (-1 : Int))) then
                    (some (Sum.inr (Sum.inr (50 : Int))))
                  else
                    (some (Sum.inl (Go.IntKind.wrap .i64 (x2 + (1 : Int))))))))
            else
              (some (Sum.inr (Sum.inl ())))) (0 : Int)) fun (y2 : (Unit ⊕ Int)) =>
        Sum.elim (fun y3 =>
          Option.bind (loopM (X := Int) (E := (Unit ⊕ Int)) (fun (x4 : Int) =>
              bif (decide (x4 < (((List.length x.1.2.2.2.2.1) : Nat) : Int))) then
                (gd ((0 : Int) ≤ x4) (gd (x4 < (((List.length x.1.2.2.2.2.1) : Nat) : Int)) (bif (List.getD x.1.2.2.2.2.1 (Int.toNat x4) false) then
                      (if x.1.1 = (0 : Int) then
                        (none)
                      else
                        (gd ((0 : Int) ≤ (Go.IntKind.wrap .i64 (Int.tdiv x4 x.1.1))) (gd ((Go.IntKind.wrap .i64 (Int.tdiv x4 x.1.1)) < (((List.length x.1.2.2.2.1) : Nat) : Int)) (bif (decide ((List.getD x.1.2.2.2.1 (Int.toNat (Go.IntKind.wrap .i64 (Int.tdiv x4 x.1.1))) (0 : Int)) < (0 : Int))) then
                              (some (Sum.inr (Sum.inr (50 : Int))))
                            else
                              (some (Sum.inl (Go.IntKind.wrap .i64 (x4 + (1 : Int)))))))))
                    else
                      (some (Sum.inl (Go.IntKind.wrap .i64 (x4 + (1 : Int))))))))
              else
                (some (Sum.inr (Sum.inl ())))) (0 : Int)) fun (y4 : (Unit ⊕ Int)) =>
          Sum.elim (fun y5 =>
            Option.bind (m51 (x.1, ())) fun (y6 : (Bool × Unit)) =>
            bif (!y6.1) then
              (some ((50 : Int), ()))
            else
              (Option.bind (m52 (x.1, ())) fun (y7 : (Bool × Unit)) =>
              bif (!y7.1) then
                (some ((50 : Int), ()))
              else
                (gd (((256 : Int) * (1 : Int)) ≤ (140737488355328 : Int)) (Option.bind (m53 (x.1, ())) fun (y8 : ((List Int) × Unit)) =>
                  Option.bind (loopM (X := (Int × (List Bool))) (E := ((List Bool) ⊕ (Int × (List Bool)))) (fun (x9 : (Int × (List Bool))) =>
                      bif (decide (x9.1 < (((List.length y8.1) : Nat) : Int))) then
                        (gd ((0 : Int) ≤ x9.1) (gd (x9.1 < (((List.length y8.1) : Nat) : Int)) (bif (decide ((List.getD y8.1 (Int.toNat x9.1) (0 : Int)) ≥ (256 : Int))) then
                              (some (Sum.inr (Sum.inr ((50 : Int), x9.2))))
                            else
                              (gd ((0 : Int) ≤ x9.1) (gd (x9.1 < (((List.length y8.1) : Nat) : Int)) (gd ((0 : Int) ≤ (List.getD y8.1 (Int.toNat x9.1) (0 : Int))) (gd ((List.getD y8.1 (Int.toNat x9.1) (0 : Int)) < (((List.length x9.2) : Nat) : Int)) (gd ((Int.toNat (List.getD y8.1 (Int.toNat x9.1) (0 : Int))) < (List.length x9.2)) (bif (List.getD x9.2 (Int.toNat (List.getD y8.1 (Int.toNat x9.1) (0 : Int))) false) then
                                          (some (Sum.inr (Sum.inr ((50 : Int), x9.2))))
                                        else
                                          (gd ((0 : Int) ≤ x9.1) (gd (x9.1 < (((List.length y8.1) : Nat) : Int)) (gd ((0 : Int) ≤ (List.getD y8.1 (Int.toNat x9.1) (0 : Int))) (gd ((List.getD y8.1 (Int.toNat x9.1) (0 : Int)) < (((List.length x9.2) : Nat) : Int)) (gd ((Int.toNat (List.getD y8.1 (Int.toNat x9.1) (0 : Int))) < (List.length x9.2)) (some (Sum.inl ((Go.IntKind.wrap .i64 (x9.1 + (1 : Int))), (List.set x9.2 (Int.toNat (List.getD y8.1 (Int.toNat x9.1) (0 : Int))) true))))))))))))))))))
                      else
                        (some (Sum.inr (Sum.inl x9.2)))) ((0 : Int), (List.replicate (Int.toNat (256 : Int)) false))) fun (y9 : ((List Bool) ⊕ (Int × (List Bool)))) =>
                  Sum.elim (fun y10 =>
                    some ((0 : Int), ())) (fun y10 =>
                    some (y10.1, ())) y9)))) (fun y5 =>
            some (y5, ())) y4) (fun y3 =>
          some (y3, ())) y2)))

noncomputable def r23 : PDen [(true, (.pair (.int .i64) (.pair (.int .i64) (.pair (.int .i64) (.pair (.sl (.int .i64)) (.pair (.sl .bool) (.pair (.pair (.int .i64) (.pair (.int .i64) (.int .i64))) (.sl (.pair (.int .i64) (.sl (.int .i64)))))))))))] → Option (PDen [(false, (.int .i64))]) := fun x => afun Try.prog (envOf [(51, ⟨[(true, (.pair (.int .i64) (.pair (.int .i64) (.pair (.int .i64) (.pair (.sl (.int .i64)) (.pair (.sl .bool) (.pair (.pair (.int .i64) (.pair (.int .i64) (.int .i64))) (.sl (.pair (.int .i64) (.sl (.int .i64)))))))))))], [(false, .bool)], false, m51⟩), (52, ⟨[(true, (.pair (.int .i64) (.pair (.int .i64) (.pair (.int .i64) (.pair (.sl (.int .i64)) (.pair (.sl .bool) (.pair (.pair (.int .i64) (.pair (.int .i64) (.int .i64))) (.sl (.pair (.int .i64) (.sl (.int .i64)))))))))))], [(false, .bool)], false, m52⟩), (53, ⟨[(true, (.pair (.int .i64) (.pair (.int .i64) (.pair (.int .i64) (.pair (.sl (.int .i64)) (.pair (.sl .bool) (.pair (.pair (.int .i64) (.pair (.int .i64) (.int .i64))) (.sl (.pair (.int .i64) (.sl (.int .i64)))))))))))], [(false, (.sl (.int .i64)))], false, m53⟩)] [(43, OM.hd ⟨[(false, (.int .i64)), (false, (.int .i64)), (false, (.int .i64))], [(true, (.pair (.int .i64) (.pair (.int .i64) (.pair (.int .i64) (.pair (.sl (.int .i64)) (.pair (.sl .bool) (.pair (.pair (.int .i64) (.pair (.int .i64) (.int .i64))) (.sl (.pair (.int .i64) (.sl (.int .i64))))))))))), (false, (.int .i64))], [(.p .d (.p .d (.p .d (.p (.s 3) (.p (.s 4) .d))))), .d], true, m43⟩)] [] []) ⟨[(0, ⟨[.slot 5 (.d false (.int .i64) true)], [], [(some 0, []), (none, [.slot 2 (.d false (.int .i64) true)])], none⟩), (2, ⟨[.slot 6 (.d false (.int .i64) true)], [], [(some 2, []), (none, [.slot 2 (.d false (.int .i64) true)])], none⟩), (4, ⟨[.slot 9 (.d false (.int .i64) true), .vec 4 4 .bool true], [], [(some 4, [.vec 4 4 .bool true]), (none, [.slot 2 (.d false (.int .i64) true), .vec 4 4 .bool true])], none⟩)], []⟩ Try.f23 [(true, (.pair (.int .i64) (.pair (.int .i64) (.pair (.int .i64) (.pair (.sl (.int .i64)) (.pair (.sl .bool) (.pair (.pair (.int .i64) (.pair (.int .i64) (.int .i64))) (.sl (.pair (.int .i64) (.sl (.int .i64)))))))))))] [(false, (.int .i64))] false x
theorem r23_eq : r23 = m23 := by kernel_rfl

theorem c23 : CS.Sound Try.prog 23 ⟨[(true, (.pair (.int .i64) (.pair (.int .i64) (.pair (.int .i64) (.pair (.sl (.int .i64)) (.pair (.sl .bool) (.pair (.pair (.int .i64) (.pair (.int .i64) (.int .i64))) (.sl (.pair (.int .i64) (.sl (.int .i64)))))))))))], [(false, (.int .i64))], false, m23⟩ := afun_sound' (envOf_sound (CSs.cons c51 (CSs.cons c52 (CSs.cons c53 (CSs.nil)))) (HDs.cons (OM.Sound.hd c43) (HDs.nil)) (IDs.nil)) rfl Try.follows (f := 23) (fn := Try.f23) Try.func23 (by kernel_rfl) (by kernel_rfl) r23_eq
end Go.Proofs.Ytefekolpfklhdaa
end

section
/- What function 59 (slices.Index(()int,int)) computes, by the kernel. -/
open Go Go.Proofs.AM
namespace Go.Proofs.Ytefekolpfklhdaa

noncomputable def m59 (x : (List Int) × Int × Unit) : Option (Int × Unit) :=
  Option.bind (loopM (X := Int) (E := (Unit ⊕ Int)) (fun (x1 : Int) =>
      bif (decide (x1 < (((List.length x.1) : Nat) : Int))) then
        (gd ((0 : Int) ≤ x1) (gd (x1 < (((List.length x.1) : Nat) : Int)) (bif (decide (x.2.1 = (List.getD x.1 (Int.toNat x1) (0 : Int)))) then
              (some (Sum.inr (Sum.inr x1)))
            else
              (some (Sum.inl (Go.IntKind.wrap .i64 (x1 + (1 : Int))))))))
      else
        (some (Sum.inr (Sum.inl ())))) (0 : Int)) fun (y1 : (Unit ⊕ Int)) =>
  Sum.elim (fun y2 =>
    some ((-1 : Int), ())) (fun y2 =>
    some (y2, ())) y1

noncomputable def r59 : PDen [(false, (.sl (.int .i64))), (false, (.int .i64))] → Option (PDen [(false, (.int .i64))]) := fun x => afun Try.prog (envOf [] [] [] []) ⟨[(0, ⟨[.slot 8 (.d false (.int .i64) true)], [], [(some 0, []), (none, [.slot 4 (.d false (.int .i64) true)])], none⟩)], []⟩ Try.f59 [(false, (.sl (.int .i64))), (false, (.int .i64))] [(false, (.int .i64))] false x
theorem r59_eq : r59 = m59 := by kernel_rfl

theorem c59 : CS.Sound Try.prog 59 ⟨[(false, (.sl (.int .i64))), (false, (.int .i64))], [(false, (.int .i64))], false, m59⟩ := afun_sound' (envOf_sound (CSs.nil) (HDs.nil) (IDs.nil)) rfl Try.follows (f := 59) (fn := Try.f59) Try.func59 (by kernel_rfl) (by kernel_rfl) r59_eq
end Go.Proofs.Ytefekolpfklhdaa
end

section
/- What function 30 (slices.Contains(()int,int)) computes, by the kernel. -/
open Go Go.Proofs.AM
namespace Go.Proofs.Ytefekolpfklhdaa

noncomputable def m30 (x : (List Int) × Int × Unit) : Option (Bool × Unit) :=
  Option.bind (m59 (x.1, (x.2.1, ()))) fun (y1 : (Int × Unit)) =>
  some ((decide (y1.1 ≥ (0 : Int))), ())

noncomputable def r30 : PDen [(false, (.sl (.int .i64))), (false, (.int .i64))] → Option (PDen [(false, .bool)]) := fun x => afun Try.prog (envOf [(59, ⟨[(false, (.sl (.int .i64))), (false, (.int .i64))], [(false, (.int .i64))], false, m59⟩)] [] [] []) ⟨[], []⟩ Try.f30 [(false, (.sl (.int .i64))), (false, (.int .i64))] [(false, .bool)] false x
theorem r30_eq : r30 = m30 := by kernel_rfl

theorem c30 : CS.Sound Try.prog 30 ⟨[(false, (.sl (.int .i64))), (false, (.int .i64))], [(false, .bool)], false, m30⟩ := afun_sound' (envOf_sound (CSs.cons c59 (CSs.nil)) (HDs.nil) (IDs.nil)) rfl Try.follows (f := 30) (fn := Try.f30) Try.func30 (by kernel_rfl) (by kernel_rfl) r30_eq
end Go.Proofs.Ytefekolpfklhdaa
end

section
/- What function 61 (slipway/plan.inRange) computes, by the kernel. -/
open Go Go.Proofs.AM
namespace Go.Proofs.Ytefekolpfklhdaa

noncomputable def m61 (x : Int × Int × Int × Unit) : Option (Bool × Unit) :=
  bif (decide (x.1 ≥ x.2.1)) then
    (some ((decide (x.1 ≤ x.2.2.1)), ()))
  else
    (some (false, ()))

noncomputable def r61 : PDen [(false, (.int .i64)), (false, (.int .i64)), (false, (.int .i64))] → Option (PDen [(false, .bool)]) := fun x => afun Try.prog (envOf [] [] [] []) ⟨[], []⟩ Try.f61 [(false, (.int .i64)), (false, (.int .i64)), (false, (.int .i64))] [(false, .bool)] false x
theorem r61_eq : r61 = m61 := by kernel_rfl

theorem c61 : CS.Sound Try.prog 61 ⟨[(false, (.int .i64)), (false, (.int .i64)), (false, (.int .i64))], [(false, .bool)], false, m61⟩ := afun_sound' (envOf_sound (CSs.nil) (HDs.nil) (IDs.nil)) rfl Try.follows (f := 61) (fn := Try.f61) Try.func61 (by kernel_rfl) (by kernel_rfl) r61_eq
end Go.Proofs.Ytefekolpfklhdaa
end

section
/- What function 107 (slipway/plan.lists$1) computes, by the kernel. -/
open Go Go.Proofs.AM
namespace Go.Proofs.Ytefekolpfklhdaa

noncomputable def m107 (x : Int × Unit) : Option (Bool × Unit) :=
  none

noncomputable def r107 : PDen [(false, (.int .i64))] → Option (PDen [(false, .bool)]) := fun x => afun Try.prog (envOf [(61, ⟨[(false, (.int .i64)), (false, (.int .i64)), (false, (.int .i64))], [(false, .bool)], false, m61⟩)] [] [] []) ⟨[], []⟩ Try.f107 [(false, (.int .i64))] [(false, .bool)] false x
theorem r107_eq : r107 = m107 := by kernel_rfl

theorem c107 : CS.Sound Try.prog 107 ⟨[(false, (.int .i64))], [(false, .bool)], false, m107⟩ := afun_sound' (envOf_sound (CSs.cons c61 (CSs.nil)) (HDs.nil) (IDs.nil)) rfl Try.follows (f := 107) (fn := Try.f107) Try.func107 (by kernel_rfl) (by kernel_rfl) r107_eq
end Go.Proofs.Ytefekolpfklhdaa
end

section
/- What function 100 (slipway/plan.lists) computes, by the kernel. -/
open Go Go.Proofs.AM
namespace Go.Proofs.Ytefekolpfklhdaa

noncomputable def m100 (x : (Int × (Int × (Int × ((List Int) × ((List Bool) × ((Int × (Int × Int)) × (List (Int × (List Int))))))))) × Unit) : Option (Bool × Unit) :=
  Option.bind (m38 (x.1.1, (x.1.2.1, (x.1.2.2.1, ())))) fun (y1 : ((Int × (Int × (Int × ((List Int) × ((List Bool) × ((Int × (Int × Int)) × (List (Int × (List Int))))))))) × (Int × Unit))) =>
  bif (!(decide (y1.2.1 = (0 : Int)))) then
    (some (false, ()))
  else
    (bif (!(decide ((((List.length x.1.2.2.2.1) : Nat) : Int) = x.1.2.1))) then
      (some (false, ()))
    else
      (bif (!(decide ((((List.length x.1.2.2.2.2.1) : Nat) : Int) = (Go.IntKind.wrap .i64 (x.1.2.1 * x.1.1))))) then
        (some (false, ()))
      else
        (bif (decide ((((List.length x.1.2.2.2.2.2.2) : Nat) : Int) > x.1.2.2.1)) then
          (some (false, ()))
        else
          (Option.bind (loopM (X := Int) (E := (Unit ⊕ Bool)) (fun (x2 : Int) =>
              bif (decide (x2 < (((List.length x.1.2.2.2.2.2.2) : Nat) : Int))) then
                (gd ((0 : Int) ≤ x2) (gd (x2 < (((List.length x.1.2.2.2.2.2.2) : Nat) : Int)) (bif (decide ((((List.length (List.getD x.1.2.2.2.2.2.2 (Int.toNat x2) ((0 : Int), ([] : List Int))).2) : Nat) : Int) > x.1.1)) then
                      (some (Sum.inr (Sum.inr false)))
                    else
                      (bif (decide (x2 < (Go.IntKind.wrap .i64 ((((List.length x.1.2.2.2.2.2.2) : Nat) : Int) - (1 : Int))))) then
                        (bif (decide ((((List.length (List.getD x.1.2.2.2.2.2.2 (Int.toNat x2) ((0 : Int), ([] : List Int))).2) : Nat) : Int) < x.1.1)) then
                          (some (Sum.inr (Sum.inr false)))
                        else
                          (Option.bind (m61 ((List.getD x.1.2.2.2.2.2.2 (Int.toNat x2) ((0 : Int), ([] : List Int))).1, ((0 : Int), ((255 : Int), ())))) fun (y3 : (Bool × Unit)) =>
                          bif (!y3.1) then
                            (some (Sum.inr (Sum.inr false)))
                          else
                            (Option.bind (loopM (X := Int) (E := (Unit ⊕ Int)) (fun (x4 : Int) =>
                                bif (decide (x4 < (((List.length (List.getD x.1.2.2.2.2.2.2 (Int.toNat x2) ((0 : Int), ([] : List Int))).2) : Nat) : Int))) then
                                  (gd ((0 : Int) ≤ x4) (gd (x4 < (((List.length (List.getD x.1.2.2.2.2.2.2 (Int.toNat x2) ((0 : Int), ([] : List Int))).2) : Nat) : Int)) (none)))
                                else
                                  (some (Sum.inr (Sum.inl ())))) (0 : Int)) fun (y4 : (Unit ⊕ Int)) =>
                            Sum.elim (fun y5 =>
                              bif (decide ((-1 : Int) ≥ (0 : Int))) then
                                (some (Sum.inr (Sum.inr false)))
                              else
                                (some (Sum.inl (Go.IntKind.wrap .i64 (x2 + (1 : Int)))))) (fun y5 =>
                              bif (decide (y5 ≥ (0 : Int))) then
                                (some (Sum.inr (Sum.inr false)))
                              else
                                (some (Sum.inl (Go.IntKind.wrap .i64 (x2 + (1 : Int)))))) y4)))
                      else
                        (Option.bind (m61 ((List.getD x.1.2.2.2.2.2.2 (Int.toNat x2) ((0 : Int), ([] : List Int))).1, ((0 : Int), ((255 : Int), ())))) fun (y3 : (Bool × Unit)) =>
                        bif (!y3.1) then
                          (some (Sum.inr (Sum.inr false)))
                        else
                          (Option.bind (loopM (X := Int) (E := (Unit ⊕ Int)) (fun (x4 : Int) =>
                              bif (decide (x4 < (((List.length (List.getD x.1.2.2.2.2.2.2 (Int.toNat x2) ((0 : Int), ([] : List Int))).2) : Nat) : Int))) then
                                (gd ((0 : Int) ≤ x4) (gd (x4 < (((List.length (List.getD x.1.2.2.2.2.2.2 (Int.toNat x2) ((0 : Int), ([] : List Int))).2) : Nat) : Int)) (none)))
                              else
                                (some (Sum.inr (Sum.inl ())))) (0 : Int)) fun (y4 : (Unit ⊕ Int)) =>
                          Sum.elim (fun y5 =>
                            bif (decide ((-1 : Int) ≥ (0 : Int))) then
                              (some (Sum.inr (Sum.inr false)))
                            else
                              (some (Sum.inl (Go.IntKind.wrap .i64 (x2 + (1 : Int)))))) (fun y5 =>
                            bif (decide (y5 ≥ (0 : Int))) then
                              (some (Sum.inr (Sum.inr false)))
                            else
                              (some (Sum.inl (Go.IntKind.wrap .i64 (x2 + (1 : Int)))))) y4))))))
              else
                (some (Sum.inr (Sum.inl ())))) (0 : Int)) fun (y2 : (Unit ⊕ Bool)) =>
          Sum.elim (fun y3 =>
            bif (decide (x.1.2.2.2.2.2.1.1 = (-1 : Int))) then
              (some (((decide (x.1.2.2.2.2.2.1.1 = (-1 : Int))) && ((decide (x.1.2.2.2.2.2.1.2.1 = (0 : Int))) && (decide (x.1.2.2.2.2.2.1.2.2 = (0 : Int))))), ()))
            else
              (Option.bind (m61 (x.1.2.2.2.2.2.1.1, ((0 : Int), ((255 : Int), ())))) fun (y4 : (Bool × Unit)) =>
              bif y4.1 then
                (Option.bind (m61 (x.1.2.2.2.2.2.1.2.1, ((0 : Int), ((Go.IntKind.wrap .i64 (x.1.2.1 - (1 : Int))), ())))) fun (y5 : (Bool × Unit)) =>
                bif y5.1 then
                  (Option.bind (m61 (x.1.2.2.2.2.2.1.2.2, ((0 : Int), (x.1.1, ())))) fun (y6 : (Bool × Unit)) =>
                  some (y6.1, ()))
                else
                  (some (false, ())))
              else
                (some (false, ())))) (fun y3 =>
            some (y3, ())) y2))))

noncomputable def i100_119 : ID := aInl Try.prog (envOf [(107, ⟨[(false, (.int .i64))], [(false, .bool)], false, m107⟩)] [] [] []) ⟨[(6000, ⟨[.slot 8 (.d false (.int .i64) true)], [], [(some 0, []), (none, [.slot 4 (.d false (.int .i64) true)])], none⟩)], []⟩ Try.f119
noncomputable def i100_106 : ID := aInl Try.prog (envOf [] [] [] [(119, i100_119)]) ⟨[], []⟩ Try.f106
noncomputable def r100 : PDen [(true, (.pair (.int .i64) (.pair (.int .i64) (.pair (.int .i64) (.pair (.sl (.int .i64)) (.pair (.sl .bool) (.pair (.pair (.int .i64) (.pair (.int .i64) (.int .i64))) (.sl (.pair (.int .i64) (.sl (.int .i64)))))))))))] → Option (PDen [(false, .bool)]) := fun x => afun Try.prog (envOf [(61, ⟨[(false, (.int .i64)), (false, (.int .i64)), (false, (.int .i64))], [(false, .bool)], false, m61⟩)] [(38, OM.hd ⟨[(false, (.int .i64)), (false, (.int .i64)), (false, (.int .i64))], [(true, (.pair (.int .i64) (.pair (.int .i64) (.pair (.int .i64) (.pair (.sl (.int .i64)) (.pair (.sl .bool) (.pair (.pair (.int .i64) (.pair (.int .i64) (.int .i64))) (.sl (.pair (.int .i64) (.sl (.int .i64))))))))))), (false, (.int .i64))], [(.p .d (.p .d (.p .d (.p (.s 3) (.p (.s 4) .d))))), .d], false, m38⟩)] [] [(106, i100_106)]) ⟨[(0, ⟨[.slot 49 (.d false (.int .i64) true)], [], [(some 0, []), (none, [.slot 2 (.d false .bool true)])], none⟩)], []⟩ Try.f100 [(true, (.pair (.int .i64) (.pair (.int .i64) (.pair (.int .i64) (.pair (.sl (.int .i64)) (.pair (.sl .bool) (.pair (.pair (.int .i64) (.pair (.int .i64) (.int .i64))) (.sl (.pair (.int .i64) (.sl (.int .i64)))))))))))] [(false, .bool)] false x
theorem r100_eq : r100 = m100 := by kernel_rfl

theorem i100_119_sound : i100_119.Sound Try.prog 119 := aInl_sound' (envOf_sound (CSs.cons c107 (CSs.nil)) (HDs.nil) (IDs.nil)) Try.follows (f := 119) (fn := Try.f119) Try.func119 (by kernel_rfl) (by kernel_rfl)
theorem i100_106_sound : i100_106.Sound Try.prog 106 := aInl_sound' (envOf_sound (CSs.nil) (HDs.nil) (IDs.cons i100_119_sound (IDs.nil))) Try.follows (f := 106) (fn := Try.f106) Try.func106 (by kernel_rfl) (by kernel_rfl)
theorem c100 : CS.Sound Try.prog 100 ⟨[(true, (.pair (.int .i64) (.pair (.int .i64) (.pair (.int .i64) (.pair (.sl (.int .i64)) (.pair (.sl .bool) (.pair (.pair (.int .i64) (.pair (.int .i64) (.int .i64))) (.sl (.pair (.int .i64) (.sl (.int .i64)))))))))))], [(false, .bool)], false, m100⟩ := afun_sound' (envOf_sound (CSs.cons c61 (CSs.nil)) (HDs.cons (OM.Sound.hd c38) (HDs.nil)) (IDs.cons i100_106_sound (IDs.nil))) rfl Try.follows (f := 100) (fn := Try.f100) Try.func100 (by kernel_rfl) (by kernel_rfl) r100_eq
end Go.Proofs.Ytefekolpfklhdaa
end

section
/- What function 84 (slipway/plan.Check) computes, by the kernel. -/
open Go Go.Proofs.AM
namespace Go.Proofs.Ytefekolpfklhdaa

noncomputable def m84 (x : (Int × (Int × (Int × ((List Int) × ((List Bool) × ((Int × (Int × Int)) × (List (Int × (List Int))))))))) × Unit) : Option (Int × Unit) :=
  Option.bind (m100 (x.1, ())) fun (y1 : (Bool × Unit)) =>
  bif (!y1.1) then
    (some ((50 : Int), ()))
  else
    (bif (decide (x.1.2.2.2.2.2.1.1 ≥ (0 : Int))) then
      (bif (decide (x.1.2.2.2.2.2.1.1 ≥ (0 : Int))) then
        (Option.bind (loopM (X := (Bool × (Int × (List (Int × Bool))))) (E := (Bool × (List (Int × Bool)))) (fun (x2 : (Bool × (Int × (List (Int × Bool))))) =>
            bif (decide (x2.2.1 < (((List.length x.1.2.2.2.1) : Nat) : Int))) then
              (gd ((0 : Int) ≤ x2.2.1) (gd (x2.2.1 < (((List.length x.1.2.2.2.1) : Nat) : Int)) (bif x2.1 then
                    (Option.bind (m61 ((List.getD x.1.2.2.2.1 (Int.toNat x2.2.1) (0 : Int)), ((-1 : Int), ((255 : Int), ())))) fun (y3 : (Bool × Unit)) =>
                    bif y3.1 then
                      (bif (decide ((List.getD x.1.2.2.2.1 (Int.toNat x2.2.1) (0 : Int)) ≥ (0 : Int))) then
                        (bif (decide ((List.getD x.1.2.2.2.1 (Int.toNat x2.2.1) (0 : Int)) ≥ (0 : Int))) then
                          (some (Sum.inl ((!(mget (false, (.int .i64)) x2.2.2 (List.getD x.1.2.2.2.1 (Int.toNat x2.2.1) (0 : Int)) false)), ((Go.IntKind.wrap .i64 (x2.2.1 + (1 : Int))), (mset (false, (.int .i64)) x2.2.2 (List.getD x.1.2.2.2.1 (Int.toNat x2.2.1) (0 : Int)) true)))))
                        else
                          (some (Sum.inl ((!(mget (false, (.int .i64)) x2.2.2 (List.getD x.1.2.2.2.1 (Int.toNat x2.2.1) (0 : Int)) false)), ((Go.IntKind.wrap .i64 (x2.2.1 + (1 : Int))), x2.2.2)))))
                      else
                        (bif (decide ((List.getD x.1.2.2.2.1 (Int.toNat x2.2.1) (0 : Int)) ≥ (0 : Int))) then
                          (some (Sum.inl (true, ((Go.IntKind.wrap .i64 (x2.2.1 + (1 : Int))), (mset (false, (.int .i64)) x2.2.2 (List.getD x.1.2.2.2.1 (Int.toNat x2.2.1) (0 : Int)) true)))))
                        else
                          (some (Sum.inl (true, ((Go.IntKind.wrap .i64 (x2.2.1 + (1 : Int))), x2.2.2))))))
                    else
                      (some (Sum.inl (false, ((Go.IntKind.wrap .i64 (x2.2.1 + (1 : Int))), x2.2.2)))))
                  else
                    (some (Sum.inl (false, ((Go.IntKind.wrap .i64 (x2.2.1 + (1 : Int))), x2.2.2)))))))
            else
              (some (Sum.inr (x2.1, x2.2.2)))) ((!(mget (false, (.int .i64)) ([] : List (Int × Bool)) x.1.2.2.2.2.2.1.1 false)), ((0 : Int), (mset (false, (.int .i64)) ([] : List (Int × Bool)) x.1.2.2.2.2.2.1.1 true)))) fun (y2 : (Bool × (List (Int × Bool)))) =>
        Option.bind (loopM (X := (Bool × (Int × ((List (Int × Bool)) × (List (Int × Bool)))))) (E := (Bool × ((List (Int × Bool)) × (List (Int × Bool))))) (fun (x3 : (Bool × (Int × ((List (Int × Bool)) × (List (Int × Bool)))))) =>
            bif (decide (x3.2.1 < (((List.length x.1.2.2.2.2.2.2) : Nat) : Int))) then
              (gd ((0 : Int) ≤ x3.2.1) (gd (x3.2.1 < (((List.length x.1.2.2.2.2.2.2) : Nat) : Int)) (bif x3.1 then
                    (bif (decide ((List.getD x.1.2.2.2.2.2.2 (Int.toNat x3.2.1) ((0 : Int), ([] : List Int))).1 ≥ (0 : Int))) then
                      (bif (decide ((List.getD x.1.2.2.2.2.2.2 (Int.toNat x3.2.1) ((0 : Int), ([] : List Int))).1 ≥ (0 : Int))) then
                        (Option.bind (loopM (X := (Bool × (Int × (List (Int × Bool))))) (E := (Bool × (List (Int × Bool)))) (fun (x4 : (Bool × (Int × (List (Int × Bool))))) =>
                            bif (decide (x4.2.1 < (((List.length (List.getD x.1.2.2.2.2.2.2 (Int.toNat x3.2.1) ((0 : Int), ([] : List Int))).2) : Nat) : Int))) then
                              (gd ((0 : Int) ≤ x4.2.1) (gd (x4.2.1 < (((List.length (List.getD x.1.2.2.2.2.2.2 (Int.toNat x3.2.1) ((0 : Int), ([] : List Int))).2) : Nat) : Int)) (bif x4.1 then
                                    (bif (decide ((List.getD (List.getD x.1.2.2.2.2.2.2 (Int.toNat x3.2.1) ((0 : Int), ([] : List Int))).2 (Int.toNat x4.2.1) (0 : Int)) ≥ (0 : Int))) then
                                      (bif (decide ((List.getD (List.getD x.1.2.2.2.2.2.2 (Int.toNat x3.2.1) ((0 : Int), ([] : List Int))).2 (Int.toNat x4.2.1) (0 : Int)) ≥ (0 : Int))) then
                                        (some (Sum.inl ((!(mget (false, (.int .i64)) x4.2.2 (List.getD (List.getD x.1.2.2.2.2.2.2 (Int.toNat x3.2.1) ((0 : Int), ([] : List Int))).2 (Int.toNat x4.2.1) (0 : Int)) false)), ((Go.IntKind.wrap .i64 (x4.2.1 + (1 : Int))), (mset (false, (.int .i64)) x4.2.2 (List.getD (List.getD x.1.2.2.2.2.2.2 (Int.toNat x3.2.1) ((0 : Int), ([] : List Int))).2 (Int.toNat x4.2.1) (0 : Int)) true)))))
                                      else
                                        (some (Sum.inl ((!(mget (false, (.int .i64)) x4.2.2 (List.getD (List.getD x.1.2.2.2.2.2.2 (Int.toNat x3.2.1) ((0 : Int), ([] : List Int))).2 (Int.toNat x4.2.1) (0 : Int)) false)), ((Go.IntKind.wrap .i64 (x4.2.1 + (1 : Int))), x4.2.2)))))
                                    else
                                      (bif (decide ((List.getD (List.getD x.1.2.2.2.2.2.2 (Int.toNat x3.2.1) ((0 : Int), ([] : List Int))).2 (Int.toNat x4.2.1) (0 : Int)) ≥ (0 : Int))) then
                                        (some (Sum.inl (true, ((Go.IntKind.wrap .i64 (x4.2.1 + (1 : Int))), (mset (false, (.int .i64)) x4.2.2 (List.getD (List.getD x.1.2.2.2.2.2.2 (Int.toNat x3.2.1) ((0 : Int), ([] : List Int))).2 (Int.toNat x4.2.1) (0 : Int)) true)))))
                                      else
                                        (some (Sum.inl (true, ((Go.IntKind.wrap .i64 (x4.2.1 + (1 : Int))), x4.2.2))))))
                                  else
                                    (some (Sum.inl (false, ((Go.IntKind.wrap .i64 (x4.2.1 + (1 : Int))), x4.2.2)))))))
                            else
                              (some (Sum.inr (x4.1, x4.2.2)))) ((!(mget (false, (.int .i64)) x3.2.2.1 (List.getD x.1.2.2.2.2.2.2 (Int.toNat x3.2.1) ((0 : Int), ([] : List Int))).1 false)), ((0 : Int), x3.2.2.2))) fun (y4 : (Bool × (List (Int × Bool)))) =>
                        some (Sum.inl (y4.1, ((Go.IntKind.wrap .i64 (x3.2.1 + (1 : Int))), ((mset (false, (.int .i64)) x3.2.2.1 (List.getD x.1.2.2.2.2.2.2 (Int.toNat x3.2.1) ((0 : Int), ([] : List Int))).1 true), y4.2)))))
                      else
                        (Option.bind (loopM (X := (Bool × (Int × (List (Int × Bool))))) (E := (Bool × (List (Int × Bool)))) (fun (x4 : (Bool × (Int × (List (Int × Bool))))) =>
                            bif (decide (x4.2.1 < (((List.length (List.getD x.1.2.2.2.2.2.2 (Int.toNat x3.2.1) ((0 : Int), ([] : List Int))).2) : Nat) : Int))) then
                              (gd ((0 : Int) ≤ x4.2.1) (gd (x4.2.1 < (((List.length (List.getD x.1.2.2.2.2.2.2 (Int.toNat x3.2.1) ((0 : Int), ([] : List Int))).2) : Nat) : Int)) (bif x4.1 then
                                    (bif (decide ((List.getD (List.getD x.1.2.2.2.2.2.2 (Int.toNat x3.2.1) ((0 : Int), ([] : List Int))).2 (Int.toNat x4.2.1) (0 : Int)) ≥ (0 : Int))) then
                                      (bif (decide ((List.getD (List.getD x.1.2.2.2.2.2.2 (Int.toNat x3.2.1) ((0 : Int), ([] : List Int))).2 (Int.toNat x4.2.1) (0 : Int)) ≥ (0 : Int))) then
                                        (some (Sum.inl ((!(mget (false, (.int .i64)) x4.2.2 (List.getD (List.getD x.1.2.2.2.2.2.2 (Int.toNat x3.2.1) ((0 : Int), ([] : List Int))).2 (Int.toNat x4.2.1) (0 : Int)) false)), ((Go.IntKind.wrap .i64 (x4.2.1 + (1 : Int))), (mset (false, (.int .i64)) x4.2.2 (List.getD (List.getD x.1.2.2.2.2.2.2 (Int.toNat x3.2.1) ((0 : Int), ([] : List Int))).2 (Int.toNat x4.2.1) (0 : Int)) true)))))
                                      else
                                        (some (Sum.inl ((!(mget (false, (.int .i64)) x4.2.2 (List.getD (List.getD x.1.2.2.2.2.2.2 (Int.toNat x3.2.1) ((0 : Int), ([] : List Int))).2 (Int.toNat x4.2.1) (0 : Int)) false)), ((Go.IntKind.wrap .i64 (x4.2.1 + (1 : Int))), x4.2.2)))))
                                    else
                                      (bif (decide ((List.getD (List.getD x.1.2.2.2.2.2.2 (Int.toNat x3.2.1) ((0 : Int), ([] : List Int))).2 (Int.toNat x4.2.1) (0 : Int)) ≥ (0 : Int))) then
                                        (some (Sum.inl (true, ((Go.IntKind.wrap .i64 (x4.2.1 + (1 : Int))), (mset (false, (.int .i64)) x4.2.2 (List.getD (List.getD x.1.2.2.2.2.2.2 (Int.toNat x3.2.1) ((0 : Int), ([] : List Int))).2 (Int.toNat x4.2.1) (0 : Int)) true)))))
                                      else
                                        (some (Sum.inl (true, ((Go.IntKind.wrap .i64 (x4.2.1 + (1 : Int))), x4.2.2))))))
                                  else
                                    (some (Sum.inl (false, ((Go.IntKind.wrap .i64 (x4.2.1 + (1 : Int))), x4.2.2)))))))
                            else
                              (some (Sum.inr (x4.1, x4.2.2)))) ((!(mget (false, (.int .i64)) x3.2.2.1 (List.getD x.1.2.2.2.2.2.2 (Int.toNat x3.2.1) ((0 : Int), ([] : List Int))).1 false)), ((0 : Int), x3.2.2.2))) fun (y4 : (Bool × (List (Int × Bool)))) =>
                        some (Sum.inl (y4.1, ((Go.IntKind.wrap .i64 (x3.2.1 + (1 : Int))), (x3.2.2.1, y4.2))))))
                    else
                      (bif (decide ((List.getD x.1.2.2.2.2.2.2 (Int.toNat x3.2.1) ((0 : Int), ([] : List Int))).1 ≥ (0 : Int))) then
                        (Option.bind (loopM (X := (Bool × (Int × (List (Int × Bool))))) (E := (Bool × (List (Int × Bool)))) (fun (x4 : (Bool × (Int × (List (Int × Bool))))) =>
                            bif (decide (x4.2.1 < (((List.length (List.getD x.1.2.2.2.2.2.2 (Int.toNat x3.2.1) ((0 : Int), ([] : List Int))).2) : Nat) : Int))) then
                              (gd ((0 : Int) ≤ x4.2.1) (gd (x4.2.1 < (((List.length (List.getD x.1.2.2.2.2.2.2 (Int.toNat x3.2.1) ((0 : Int), ([] : List Int))).2) : Nat) : Int)) (bif x4.1 then
                                    (bif (decide ((List.getD (List.getD x.1.2.2.2.2.2.2 (Int.toNat x3.2.1) ((0 : Int), ([] : List Int))).2 (Int.toNat x4.2.1) (0 : Int)) ≥ (0 : Int))) then
                                      (bif (decide ((List.getD (List.getD x.1.2.2.2.2.2.2 (Int.toNat x3.2.1) ((0 : Int), ([] : List Int))).2 (Int.toNat x4.2.1) (0 : Int)) ≥ (0 : Int))) then
                                        (some (Sum.inl ((!(mget (false, (.int .i64)) x4.2.2 (List.getD (List.getD x.1.2.2.2.2.2.2 (Int.toNat x3.2.1) ((0 : Int), ([] : List Int))).2 (Int.toNat x4.2.1) (0 : Int)) false)), ((Go.IntKind.wrap .i64 (x4.2.1 + (1 : Int))), (mset (false, (.int .i64)) x4.2.2 (List.getD (List.getD x.1.2.2.2.2.2.2 (Int.toNat x3.2.1) ((0 : Int), ([] : List Int))).2 (Int.toNat x4.2.1) (0 : Int)) true)))))
                                      else
                                        (some (Sum.inl ((!(mget (false, (.int .i64)) x4.2.2 (List.getD (List.getD x.1.2.2.2.2.2.2 (Int.toNat x3.2.1) ((0 : Int), ([] : List Int))).2 (Int.toNat x4.2.1) (0 : Int)) false)), ((Go.IntKind.wrap .i64 (x4.2.1 + (1 : Int))), x4.2.2)))))
                                    else
                                      (bif (decide ((List.getD (List.getD x.1.2.2.2.2.2.2 (Int.toNat x3.2.1) ((0 : Int), ([] : List Int))).2 (Int.toNat x4.2.1) (0 : Int)) ≥ (0 : Int))) then
                                        (some (Sum.inl (true, ((Go.IntKind.wrap .i64 (x4.2.1 + (1 : Int))), (mset (false, (.int .i64)) x4.2.2 (List.getD (List.getD x.1.2.2.2.2.2.2 (Int.toNat x3.2.1) ((0 : Int), ([] : List Int))).2 (Int.toNat x4.2.1) (0 : Int)) true)))))
                                      else
                                        (some (Sum.inl (true, ((Go.IntKind.wrap .i64 (x4.2.1 + (1 : Int))), x4.2.2))))))
                                  else
                                    (some (Sum.inl (false, ((Go.IntKind.wrap .i64 (x4.2.1 + (1 : Int))), x4.2.2)))))))
                            else
                              (some (Sum.inr (x4.1, x4.2.2)))) (true, ((0 : Int), x3.2.2.2))) fun (y4 : (Bool × (List (Int × Bool)))) =>
                        some (Sum.inl (y4.1, ((Go.IntKind.wrap .i64 (x3.2.1 + (1 : Int))), ((mset (false, (.int .i64)) x3.2.2.1 (List.getD x.1.2.2.2.2.2.2 (Int.toNat x3.2.1) ((0 : Int), ([] : List Int))).1 true), y4.2)))))
                      else
                        (Option.bind (loopM (X := (Bool × (Int × (List (Int × Bool))))) (E := (Bool × (List (Int × Bool)))) (fun (x4 : (Bool × (Int × (List (Int × Bool))))) =>
                            bif (decide (x4.2.1 < (((List.length (List.getD x.1.2.2.2.2.2.2 (Int.toNat x3.2.1) ((0 : Int), ([] : List Int))).2) : Nat) : Int))) then
                              (gd ((0 : Int) ≤ x4.2.1) (gd (x4.2.1 < (((List.length (List.getD x.1.2.2.2.2.2.2 (Int.toNat x3.2.1) ((0 : Int), ([] : List Int))).2) : Nat) : Int)) (bif x4.1 then
                                    (bif (decide ((List.getD (List.getD x.1.2.2.2.2.2.2 (Int.toNat x3.2.1) ((0 : Int), ([] : List Int))).2 (Int.toNat x4.2.1) (0 : Int)) ≥ (0 : Int))) then
                                      (bif (decide ((List.getD (List.getD x.1.2.2.2.2.2.2 (Int.toNat x3.2.1) ((0 : Int), ([] : List Int))).2 (Int.toNat x4.2.1) (0 : Int)) ≥ (0 : Int))) then
                                        (some (Sum.inl ((!(mget (false, (.int .i64)) x4.2.2 (List.getD (List.getD x.1.2.2.2.2.2.2 (Int.toNat x3.2.1) ((0 : Int), ([] : List Int))).2 (Int.toNat x4.2.1) (0 : Int)) false)), ((Go.IntKind.wrap .i64 (x4.2.1 + (1 : Int))), (mset (false, (.int .i64)) x4.2.2 (List.getD (List.getD x.1.2.2.2.2.2.2 (Int.toNat x3.2.1) ((0 : Int), ([] : List Int))).2 (Int.toNat x4.2.1) (0 : Int)) true)))))
                                      else
                                        (some (Sum.inl ((!(mget (false, (.int .i64)) x4.2.2 (List.getD (List.getD x.1.2.2.2.2.2.2 (Int.toNat x3.2.1) ((0 : Int), ([] : List Int))).2 (Int.toNat x4.2.1) (0 : Int)) false)), ((Go.IntKind.wrap .i64 (x4.2.1 + (1 : Int))), x4.2.2)))))
                                    else
                                      (bif (decide ((List.getD (List.getD x.1.2.2.2.2.2.2 (Int.toNat x3.2.1) ((0 : Int), ([] : List Int))).2 (Int.toNat x4.2.1) (0 : Int)) ≥ (0 : Int))) then
                                        (some (Sum.inl (true, ((Go.IntKind.wrap .i64 (x4.2.1 + (1 : Int))), (mset (false, (.int .i64)) x4.2.2 (List.getD (List.getD x.1.2.2.2.2.2.2 (Int.toNat x3.2.1) ((0 : Int), ([] : List Int))).2 (Int.toNat x4.2.1) (0 : Int)) true)))))
                                      else
                                        (some (Sum.inl (true, ((Go.IntKind.wrap .i64 (x4.2.1 + (1 : Int))), x4.2.2))))))
                                  else
                                    (some (Sum.inl (false, ((Go.IntKind.wrap .i64 (x4.2.1 + (1 : Int))), x4.2.2)))))))
                            else
                              (some (Sum.inr (x4.1, x4.2.2)))) (true, ((0 : Int), x3.2.2.2))) fun (y4 : (Bool × (List (Int × Bool)))) =>
                        some (Sum.inl (y4.1, ((Go.IntKind.wrap .i64 (x3.2.1 + (1 : Int))), (x3.2.2.1, y4.2)))))))
                  else
                    (Option.bind (loopM (X := (Bool × (Int × (List (Int × Bool))))) (E := (Bool × (List (Int × Bool)))) (fun (x4 : (Bool × (Int × (List (Int × Bool))))) =>
                        bif (decide (x4.2.1 < (((List.length (List.getD x.1.2.2.2.2.2.2 (Int.toNat x3.2.1) ((0 : Int), ([] : List Int))).2) : Nat) : Int))) then
                          (gd ((0 : Int) ≤ x4.2.1) (gd (x4.2.1 < (((List.length (List.getD x.1.2.2.2.2.2.2 (Int.toNat x3.2.1) ((0 : Int), ([] : List Int))).2) : Nat) : Int)) (bif x4.1 then
                                (bif (decide ((List.getD (List.getD x.1.2.2.2.2.2.2 (Int.toNat x3.2.1) ((0 : Int), ([] : List Int))).2 (Int.toNat x4.2.1) (0 : Int)) ≥ (0 : Int))) then
                                  (bif (decide ((List.getD (List.getD x.1.2.2.2.2.2.2 (Int.toNat x3.2.1) ((0 : Int), ([] : List Int))).2 (Int.toNat x4.2.1) (0 : Int)) ≥ (0 : Int))) then
                                    (some (Sum.inl ((!(mget (false, (.int .i64)) x4.2.2 (List.getD (List.getD x.1.2.2.2.2.2.2 (Int.toNat x3.2.1) ((0 : Int), ([] : List Int))).2 (Int.toNat x4.2.1) (0 : Int)) false)), ((Go.IntKind.wrap .i64 (x4.2.1 + (1 : Int))), (mset (false, (.int .i64)) x4.2.2 (List.getD (List.getD x.1.2.2.2.2.2.2 (Int.toNat x3.2.1) ((0 : Int), ([] : List Int))).2 (Int.toNat x4.2.1) (0 : Int)) true)))))
                                  else
                                    (some (Sum.inl ((!(mget (false, (.int .i64)) x4.2.2 (List.getD (List.getD x.1.2.2.2.2.2.2 (Int.toNat x3.2.1) ((0 : Int), ([] : List Int))).2 (Int.toNat x4.2.1) (0 : Int)) false)), ((Go.IntKind.wrap .i64 (x4.2.1 + (1 : Int))), x4.2.2)))))
                                else
                                  (bif (decide ((List.getD (List.getD x.1.2.2.2.2.2.2 (Int.toNat x3.2.1) ((0 : Int), ([] : List Int))).2 (Int.toNat x4.2.1) (0 : Int)) ≥ (0 : Int))) then
                                    (some (Sum.inl (true, ((Go.IntKind.wrap .i64 (x4.2.1 + (1 : Int))), (mset (false, (.int .i64)) x4.2.2 (List.getD (List.getD x.1.2.2.2.2.2.2 (Int.toNat x3.2.1) ((0 : Int), ([] : List Int))).2 (Int.toNat x4.2.1) (0 : Int)) true)))))
                                  else
                                    (some (Sum.inl (true, ((Go.IntKind.wrap .i64 (x4.2.1 + (1 : Int))), x4.2.2))))))
                              else
                                (some (Sum.inl (false, ((Go.IntKind.wrap .i64 (x4.2.1 + (1 : Int))), x4.2.2)))))))
                        else
                          (some (Sum.inr (x4.1, x4.2.2)))) (false, ((0 : Int), x3.2.2.2))) fun (y4 : (Bool × (List (Int × Bool)))) =>
                    some (Sum.inl (y4.1, ((Go.IntKind.wrap .i64 (x3.2.1 + (1 : Int))), (x3.2.2.1, y4.2))))))))
            else
              (some (Sum.inr (x3.1, (x3.2.2.1, x3.2.2.2))))) (y2.1, ((0 : Int), (y2.2, ([] : List (Int × Bool)))))) fun (y3 : (Bool × ((List (Int × Bool)) × (List (Int × Bool))))) =>
        Option.bind (loopM (X := (Bool × Int)) (E := Bool) (fun (x4 : (Bool × Int)) =>
            bif (decide (x4.2 < (((List.length x.1.2.2.2.2.1) : Nat) : Int))) then
              (gd ((0 : Int) ≤ x4.2) (gd (x4.2 < (((List.length x.1.2.2.2.2.1) : Nat) : Int)) (bif x4.1 then
                    (bif (!(List.getD x.1.2.2.2.2.1 (Int.toNat x4.2) false)) then
                      (some (Sum.inl (true, (Go.IntKind.wrap .i64 (x4.2 + (1 : Int))))))
                    else
                      (if x.1.1 = (0 : Int) then
                        (none)
                      else
                        (gd ((0 : Int) ≤ (Go.IntKind.wrap .i64 (Int.tdiv x4.2 x.1.1))) (gd ((Go.IntKind.wrap .i64 (Int.tdiv x4.2 x.1.1)) < (((List.length x.1.2.2.2.1) : Nat) : Int)) (some (Sum.inl ((decide ((List.getD x.1.2.2.2.1 (Int.toNat (Go.IntKind.wrap .i64 (Int.tdiv x4.2 x.1.1))) (0 : Int)) ≥ (0 : Int))), (Go.IntKind.wrap .i64 (x4.2 + (1 : Int))))))))))
                  else
                    (some (Sum.inl (false, (Go.IntKind.wrap .i64 (x4.2 + (1 : Int)))))))))
            else
              (some (Sum.inr x4.1))) (y3.1, (0 : Int))) fun (y4 : Bool) =>
        bif (!y4) then
          (some ((50 : Int), ()))
        else
          (some ((0 : Int), ())))
      else
        (Option.bind (loopM (X := (Bool × (Int × (List (Int × Bool))))) (E := (Bool × (List (Int × Bool)))) (fun (x2 : (Bool × (Int × (List (Int × Bool))))) =>
            bif (decide (x2.2.1 < (((List.length x.1.2.2.2.1) : Nat) : Int))) then
              (gd ((0 : Int) ≤ x2.2.1) (gd (x2.2.1 < (((List.length x.1.2.2.2.1) : Nat) : Int)) (bif x2.1 then
                    (Option.bind (m61 ((List.getD x.1.2.2.2.1 (Int.toNat x2.2.1) (0 : Int)), ((-1 : Int), ((255 : Int), ())))) fun (y3 : (Bool × Unit)) =>
                    bif y3.1 then
                      (bif (decide ((List.getD x.1.2.2.2.1 (Int.toNat x2.2.1) (0 : Int)) ≥ (0 : Int))) then
                        (bif (decide ((List.getD x.1.2.2.2.1 (Int.toNat x2.2.1) (0 : Int)) ≥ (0 : Int))) then
                          (some (Sum.inl ((!(mget (false, (.int .i64)) x2.2.2 (List.getD x.1.2.2.2.1 (Int.toNat x2.2.1) (0 : Int)) false)), ((Go.IntKind.wrap .i64 (x2.2.1 + (1 : Int))), (mset (false, (.int .i64)) x2.2.2 (List.getD x.1.2.2.2.1 (Int.toNat x2.2.1) (0 : Int)) true)))))
                        else
                          (some (Sum.inl ((!(mget (false, (.int .i64)) x2.2.2 (List.getD x.1.2.2.2.1 (Int.toNat x2.2.1) (0 : Int)) false)), ((Go.IntKind.wrap .i64 (x2.2.1 + (1 : Int))), x2.2.2)))))
                      else
                        (bif (decide ((List.getD x.1.2.2.2.1 (Int.toNat x2.2.1) (0 : Int)) ≥ (0 : Int))) then
                          (some (Sum.inl (true, ((Go.IntKind.wrap .i64 (x2.2.1 + (1 : Int))), (mset (false, (.int .i64)) x2.2.2 (List.getD x.1.2.2.2.1 (Int.toNat x2.2.1) (0 : Int)) true)))))
                        else
                          (some (Sum.inl (true, ((Go.IntKind.wrap .i64 (x2.2.1 + (1 : Int))), x2.2.2))))))
                    else
                      (some (Sum.inl (false, ((Go.IntKind.wrap .i64 (x2.2.1 + (1 : Int))), x2.2.2)))))
                  else
                    (some (Sum.inl (false, ((Go.IntKind.wrap .i64 (x2.2.1 + (1 : Int))), x2.2.2)))))))
            else
              (some (Sum.inr (x2.1, x2.2.2)))) ((!(mget (false, (.int .i64)) ([] : List (Int × Bool)) x.1.2.2.2.2.2.1.1 false)), ((0 : Int), ([] : List (Int × Bool))))) fun (y2 : (Bool × (List (Int × Bool)))) =>
        Option.bind (loopM (X := (Bool × (Int × ((List (Int × Bool)) × (List (Int × Bool)))))) (E := (Bool × ((List (Int × Bool)) × (List (Int × Bool))))) (fun (x3 : (Bool × (Int × ((List (Int × Bool)) × (List (Int × Bool)))))) =>
            bif (decide (x3.2.1 < (((List.length x.1.2.2.2.2.2.2) : Nat) : Int))) then
              (gd ((0 : Int) ≤ x3.2.1) (gd (x3.2.1 < (((List.length x.1.2.2.2.2.2.2) : Nat) : Int)) (bif x3.1 then
                    (bif (decide ((List.getD x.1.2.2.2.2.2.2 (Int.toNat x3.2.1) ((0 : Int), ([] : List Int))).1 ≥ (0 : Int))) then
                      (bif (decide ((List.getD x.1.2.2.2.2.2.2 (Int.toNat x3.2.1) ((0 : Int), ([] : List Int))).1 ≥ (0 : Int))) then
                        (Option.bind (loopM (X := (Bool × (Int × (List (Int × Bool))))) (E := (Bool × (List (Int × Bool)))) (fun (x4 : (Bool × (Int × (List (Int × Bool))))) =>
                            bif (decide (x4.2.1 < (((List.length (List.getD x.1.2.2.2.2.2.2 (Int.toNat x3.2.1) ((0 : Int), ([] : List Int))).2) : Nat) : Int))) then
                              (gd ((0 : Int) ≤ x4.2.1) (gd (x4.2.1 < (((List.length (List.getD x.1.2.2.2.2.2.2 (Int.toNat x3.2.1) ((0 : Int), ([] : List Int))).2) : Nat) : Int)) (bif x4.1 then
                                    (bif (decide ((List.getD (List.getD x.1.2.2.2.2.2.2 (Int.toNat x3.2.1) ((0 : Int), ([] : List Int))).2 (Int.toNat x4.2.1) (0 : Int)) ≥ (0 : Int))) then
                                      (bif (decide ((List.getD (List.getD x.1.2.2.2.2.2.2 (Int.toNat x3.2.1) ((0 : Int), ([] : List Int))).2 (Int.toNat x4.2.1) (0 : Int)) ≥ (0 : Int))) then
                                        (some (Sum.inl ((!(mget (false, (.int .i64)) x4.2.2 (List.getD (List.getD x.1.2.2.2.2.2.2 (Int.toNat x3.2.1) ((0 : Int), ([] : List Int))).2 (Int.toNat x4.2.1) (0 : Int)) false)), ((Go.IntKind.wrap .i64 (x4.2.1 + (1 : Int))), (mset (false, (.int .i64)) x4.2.2 (List.getD (List.getD x.1.2.2.2.2.2.2 (Int.toNat x3.2.1) ((0 : Int), ([] : List Int))).2 (Int.toNat x4.2.1) (0 : Int)) true)))))
                                      else
                                        (some (Sum.inl ((!(mget (false, (.int .i64)) x4.2.2 (List.getD (List.getD x.1.2.2.2.2.2.2 (Int.toNat x3.2.1) ((0 : Int), ([] : List Int))).2 (Int.toNat x4.2.1) (0 : Int)) false)), ((Go.IntKind.wrap .i64 (x4.2.1 + (1 : Int))), x4.2.2)))))
                                    else
                                      (bif (decide ((List.getD (List.getD x.1.2.2.2.2.2.2 (Int.toNat x3.2.1) ((0 : Int), ([] : List Int))).2 (Int.toNat x4.2.1) (0 : Int)) ≥ (0 : Int))) then
                                        (some (Sum.inl (true, ((Go.IntKind.wrap .i64 (x4.2.1 + (1 : Int))), (mset (false, (.int .i64)) x4.2.2 (List.getD (List.getD x.1.2.2.2.2.2.2 (Int.toNat x3.2.1) ((0 : Int), ([] : List Int))).2 (Int.toNat x4.2.1) (0 : Int)) true)))))
                                      else
                                        (some (Sum.inl (true, ((Go.IntKind.wrap .i64 (x4.2.1 + (1 : Int))), x4.2.2))))))
                                  else
                                    (some (Sum.inl (false, ((Go.IntKind.wrap .i64 (x4.2.1 + (1 : Int))), x4.2.2)))))))
                            else
                              (some (Sum.inr (x4.1, x4.2.2)))) ((!(mget (false, (.int .i64)) x3.2.2.1 (List.getD x.1.2.2.2.2.2.2 (Int.toNat x3.2.1) ((0 : Int), ([] : List Int))).1 false)), ((0 : Int), x3.2.2.2))) fun (y4 : (Bool × (List (Int × Bool)))) =>
                        some (Sum.inl (y4.1, ((Go.IntKind.wrap .i64 (x3.2.1 + (1 : Int))), ((mset (false, (.int .i64)) x3.2.2.1 (List.getD x.1.2.2.2.2.2.2 (Int.toNat x3.2.1) ((0 : Int), ([] : List Int))).1 true), y4.2)))))
                      else
                        (Option.bind (loopM (X := (Bool × (Int × (List (Int × Bool))))) (E := (Bool × (List (Int × Bool)))) (fun (x4 : (Bool × (Int × (List (Int × Bool))))) =>
                            bif (decide (x4.2.1 < (((List.length (List.getD x.1.2.2.2.2.2.2 (Int.toNat x3.2.1) ((0 : Int), ([] : List Int))).2) : Nat) : Int))) then
                              (gd ((0 : Int) ≤ x4.2.1) (gd (x4.2.1 < (((List.length (List.getD x.1.2.2.2.2.2.2 (Int.toNat x3.2.1) ((0 : Int), ([] : List Int))).2) : Nat) : Int)) (bif x4.1 then
                                    (bif (decide ((List.getD (List.getD x.1.2.2.2.2.2.2 (Int.toNat x3.2.1) ((0 : Int), ([] : List Int))).2 (Int.toNat x4.2.1) (0 : Int)) ≥ (0 : Int))) then
                                      (bif (decide ((List.getD (List.getD x.1.2.2.2.2.2.2 (Int.toNat x3.2.1) ((0 : Int), ([] : List Int))).2 (Int.toNat x4.2.1) (0 : Int)) ≥ (0 : Int))) then
                                        (some (Sum.inl ((!(mget (false, (.int .i64)) x4.2.2 (List.getD (List.getD x.1.2.2.2.2.2.2 (Int.toNat x3.2.1) ((0 : Int), ([] : List Int))).2 (Int.toNat x4.2.1) (0 : Int)) false)), ((Go.IntKind.wrap .i64 (x4.2.1 + (1 : Int))), (mset (false, (.int .i64)) x4.2.2 (List.getD (List.getD x.1.2.2.2.2.2.2 (Int.toNat x3.2.1) ((0 : Int), ([] : List Int))).2 (Int.toNat x4.2.1) (0 : Int)) true)))))
                                      else
                                        (some (Sum.inl ((!(mget (false, (.int .i64)) x4.2.2 (List.getD (List.getD x.1.2.2.2.2.2.2 (Int.toNat x3.2.1) ((0 : Int), ([] : List Int))).2 (Int.toNat x4.2.1) (0 : Int)) false)), ((Go.IntKind.wrap .i64 (x4.2.1 + (1 : Int))), x4.2.2)))))
                                    else
                                      (bif (decide ((List.getD (List.getD x.1.2.2.2.2.2.2 (Int.toNat x3.2.1) ((0 : Int), ([] : List Int))).2 (Int.toNat x4.2.1) (0 : Int)) ≥ (0 : Int))) then
                                        (some (Sum.inl (true, ((Go.IntKind.wrap .i64 (x4.2.1 + (1 : Int))), (mset (false, (.int .i64)) x4.2.2 (List.getD (List.getD x.1.2.2.2.2.2.2 (Int.toNat x3.2.1) ((0 : Int), ([] : List Int))).2 (Int.toNat x4.2.1) (0 : Int)) true)))))
                                      else
                                        (some (Sum.inl (true, ((Go.IntKind.wrap .i64 (x4.2.1 + (1 : Int))), x4.2.2))))))
                                  else
                                    (some (Sum.inl (false, ((Go.IntKind.wrap .i64 (x4.2.1 + (1 : Int))), x4.2.2)))))))
                            else
                              (some (Sum.inr (x4.1, x4.2.2)))) ((!(mget (false, (.int .i64)) x3.2.2.1 (List.getD x.1.2.2.2.2.2.2 (Int.toNat x3.2.1) ((0 : Int), ([] : List Int))).1 false)), ((0 : Int), x3.2.2.2))) fun (y4 : (Bool × (List (Int × Bool)))) =>
                        some (Sum.inl (y4.1, ((Go.IntKind.wrap .i64 (x3.2.1 + (1 : Int))), (x3.2.2.1, y4.2))))))
                    else
                      (bif (decide ((List.getD x.1.2.2.2.2.2.2 (Int.toNat x3.2.1) ((0 : Int), ([] : List Int))).1 ≥ (0 : Int))) then
                        (Option.bind (loopM (X := (Bool × (Int × (List (Int × Bool))))) (E := (Bool × (List (Int × Bool)))) (fun (x4 : (Bool × (Int × (List (Int × Bool))))) =>
                            bif (decide (x4.2.1 < (((List.length (List.getD x.1.2.2.2.2.2.2 (Int.toNat x3.2.1) ((0 : Int), ([] : List Int))).2) : Nat) : Int))) then
                              (gd ((0 : Int) ≤ x4.2.1) (gd (x4.2.1 < (((List.length (List.getD x.1.2.2.2.2.2.2 (Int.toNat x3.2.1) ((0 : Int), ([] : List Int))).2) : Nat) : Int)) (bif x4.1 then
                                    (bif (decide ((List.getD (List.getD x.1.2.2.2.2.2.2 (Int.toNat x3.2.1) ((0 : Int), ([] : List Int))).2 (Int.toNat x4.2.1) (0 : Int)) ≥ (0 : Int))) then
                                      (bif (decide ((List.getD (List.getD x.1.2.2.2.2.2.2 (Int.toNat x3.2.1) ((0 : Int), ([] : List Int))).2 (Int.toNat x4.2.1) (0 : Int)) ≥ (0 : Int))) then
                                        (some (Sum.inl ((!(mget (false, (.int .i64)) x4.2.2 (List.getD (List.getD x.1.2.2.2.2.2.2 (Int.toNat x3.2.1) ((0 : Int), ([] : List Int))).2 (Int.toNat x4.2.1) (0 : Int)) false)), ((Go.IntKind.wrap .i64 (x4.2.1 + (1 : Int))), (mset (false, (.int .i64)) x4.2.2 (List.getD (List.getD x.1.2.2.2.2.2.2 (Int.toNat x3.2.1) ((0 : Int), ([] : List Int))).2 (Int.toNat x4.2.1) (0 : Int)) true)))))
                                      else
                                        (some (Sum.inl ((!(mget (false, (.int .i64)) x4.2.2 (List.getD (List.getD x.1.2.2.2.2.2.2 (Int.toNat x3.2.1) ((0 : Int), ([] : List Int))).2 (Int.toNat x4.2.1) (0 : Int)) false)), ((Go.IntKind.wrap .i64 (x4.2.1 + (1 : Int))), x4.2.2)))))
                                    else
                                      (bif (decide ((List.getD (List.getD x.1.2.2.2.2.2.2 (Int.toNat x3.2.1) ((0 : Int), ([] : List Int))).2 (Int.toNat x4.2.1) (0 : Int)) ≥ (0 : Int))) then
                                        (some (Sum.inl (true, ((Go.IntKind.wrap .i64 (x4.2.1 + (1 : Int))), (mset (false, (.int .i64)) x4.2.2 (List.getD (List.getD x.1.2.2.2.2.2.2 (Int.toNat x3.2.1) ((0 : Int), ([] : List Int))).2 (Int.toNat x4.2.1) (0 : Int)) true)))))
                                      else
                                        (some (Sum.inl (true, ((Go.IntKind.wrap .i64 (x4.2.1 + (1 : Int))), x4.2.2))))))
                                  else
                                    (some (Sum.inl (false, ((Go.IntKind.wrap .i64 (x4.2.1 + (1 : Int))), x4.2.2)))))))
                            else
                              (some (Sum.inr (x4.1, x4.2.2)))) (true, ((0 : Int), x3.2.2.2))) fun (y4 : (Bool × (List (Int × Bool)))) =>
                        some (Sum.inl (y4.1, ((Go.IntKind.wrap .i64 (x3.2.1 + (1 : Int))), ((mset (false, (.int .i64)) x3.2.2.1 (List.getD x.1.2.2.2.2.2.2 (Int.toNat x3.2.1) ((0 : Int), ([] : List Int))).1 true), y4.2)))))
                      else
                        (Option.bind (loopM (X := (Bool × (Int × (List (Int × Bool))))) (E := (Bool × (List (Int × Bool)))) (fun (x4 : (Bool × (Int × (List (Int × Bool))))) =>
                            bif (decide (x4.2.1 < (((List.length (List.getD x.1.2.2.2.2.2.2 (Int.toNat x3.2.1) ((0 : Int), ([] : List Int))).2) : Nat) : Int))) then
                              (gd ((0 : Int) ≤ x4.2.1) (gd (x4.2.1 < (((List.length (List.getD x.1.2.2.2.2.2.2 (Int.toNat x3.2.1) ((0 : Int), ([] : List Int))).2) : Nat) : Int)) (bif x4.1 then
                                    (bif (decide ((List.getD (List.getD x.1.2.2.2.2.2.2 (Int.toNat x3.2.1) ((0 : Int), ([] : List Int))).2 (Int.toNat x4.2.1) (0 : Int)) ≥ (0 : Int))) then
                                      (bif (decide ((List.getD (List.getD x.1.2.2.2.2.2.2 (Int.toNat x3.2.1) ((0 : Int), ([] : List Int))).2 (Int.toNat x4.2.1) (0 : Int)) ≥ (0 : Int))) then
                                        (some (Sum.inl ((!(mget (false, (.int .i64)) x4.2.2 (List.getD (List.getD x.1.2.2.2.2.2.2 (Int.toNat x3.2.1) ((0 : Int), ([] : List Int))).2 (Int.toNat x4.2.1) (0 : Int)) false)), ((Go.IntKind.wrap .i64 (x4.2.1 + (1 : Int))), (mset (false, (.int .i64)) x4.2.2 (List.getD (List.getD x.1.2.2.2.2.2.2 (Int.toNat x3.2.1) ((0 : Int), ([] : List Int))).2 (Int.toNat x4.2.1) (0 : Int)) true)))))
                                      else
                                        (some (Sum.inl ((!(mget (false, (.int .i64)) x4.2.2 (List.getD (List.getD x.1.2.2.2.2.2.2 (Int.toNat x3.2.1) ((0 : Int), ([] : List Int))).2 (Int.toNat x4.2.1) (0 : Int)) false)), ((Go.IntKind.wrap .i64 (x4.2.1 + (1 : Int))), x4.2.2)))))
                                    else
                                      (bif (decide ((List.getD (List.getD x.1.2.2.2.2.2.2 (Int.toNat x3.2.1) ((0 : Int), ([] : List Int))).2 (Int.toNat x4.2.1) (0 : Int)) ≥ (0 : Int))) then
                                        (some (Sum.inl (true, ((Go.IntKind.wrap .i64 (x4.2.1 + (1 : Int))), (mset (false, (.int .i64)) x4.2.2 (List.getD (List.getD x.1.2.2.2.2.2.2 (Int.toNat x3.2.1) ((0 : Int), ([] : List Int))).2 (Int.toNat x4.2.1) (0 : Int)) true)))))
                                      else
                                        (some (Sum.inl (true, ((Go.IntKind.wrap .i64 (x4.2.1 + (1 : Int))), x4.2.2))))))
                                  else
                                    (some (Sum.inl (false, ((Go.IntKind.wrap .i64 (x4.2.1 + (1 : Int))), x4.2.2)))))))
                            else
                              (some (Sum.inr (x4.1, x4.2.2)))) (true, ((0 : Int), x3.2.2.2))) fun (y4 : (Bool × (List (Int × Bool)))) =>
                        some (Sum.inl (y4.1, ((Go.IntKind.wrap .i64 (x3.2.1 + (1 : Int))), (x3.2.2.1, y4.2)))))))
                  else
                    (Option.bind (loopM (X := (Bool × (Int × (List (Int × Bool))))) (E := (Bool × (List (Int × Bool)))) (fun (x4 : (Bool × (Int × (List (Int × Bool))))) =>
                        bif (decide (x4.2.1 < (((List.length (List.getD x.1.2.2.2.2.2.2 (Int.toNat x3.2.1) ((0 : Int), ([] : List Int))).2) : Nat) : Int))) then
                          (gd ((0 : Int) ≤ x4.2.1) (gd (x4.2.1 < (((List.length (List.getD x.1.2.2.2.2.2.2 (Int.toNat x3.2.1) ((0 : Int), ([] : List Int))).2) : Nat) : Int)) (bif x4.1 then
                                (bif (decide ((List.getD (List.getD x.1.2.2.2.2.2.2 (Int.toNat x3.2.1) ((0 : Int), ([] : List Int))).2 (Int.toNat x4.2.1) (0 : Int)) ≥ (0 : Int))) then
                                  (bif (decide ((List.getD (List.getD x.1.2.2.2.2.2.2 (Int.toNat x3.2.1) ((0 : Int), ([] : List Int))).2 (Int.toNat x4.2.1) (0 : Int)) ≥ (0 : Int))) then
                                    (some (Sum.inl ((!(mget (false, (.int .i64)) x4.2.2 (List.getD (List.getD x.1.2.2.2.2.2.2 (Int.toNat x3.2.1) ((0 : Int), ([] : List Int))).2 (Int.toNat x4.2.1) (0 : Int)) false)), ((Go.IntKind.wrap .i64 (x4.2.1 + (1 : Int))), (mset (false, (.int .i64)) x4.2.2 (List.getD (List.getD x.1.2.2.2.2.2.2 (Int.toNat x3.2.1) ((0 : Int), ([] : List Int))).2 (Int.toNat x4.2.1) (0 : Int)) true)))))
                                  else
                                    (some (Sum.inl ((!(mget (false, (.int .i64)) x4.2.2 (List.getD (List.getD x.1.2.2.2.2.2.2 (Int.toNat x3.2.1) ((0 : Int), ([] : List Int))).2 (Int.toNat x4.2.1) (0 : Int)) false)), ((Go.IntKind.wrap .i64 (x4.2.1 + (1 : Int))), x4.2.2)))))
                                else
                                  (bif (decide ((List.getD (List.getD x.1.2.2.2.2.2.2 (Int.toNat x3.2.1) ((0 : Int), ([] : List Int))).2 (Int.toNat x4.2.1) (0 : Int)) ≥ (0 : Int))) then
                                    (some (Sum.inl (true, ((Go.IntKind.wrap .i64 (x4.2.1 + (1 : Int))), (mset (false, (.int .i64)) x4.2.2 (List.getD (List.getD x.1.2.2.2.2.2.2 (Int.toNat x3.2.1) ((0 : Int), ([] : List Int))).2 (Int.toNat x4.2.1) (0 : Int)) true)))))
                                  else
                                    (some (Sum.inl (true, ((Go.IntKind.wrap .i64 (x4.2.1 + (1 : Int))), x4.2.2))))))
                              else
                                (some (Sum.inl (false, ((Go.IntKind.wrap .i64 (x4.2.1 + (1 : Int))), x4.2.2)))))))
                        else
                          (some (Sum.inr (x4.1, x4.2.2)))) (false, ((0 : Int), x3.2.2.2))) fun (y4 : (Bool × (List (Int × Bool)))) =>
                    some (Sum.inl (y4.1, ((Go.IntKind.wrap .i64 (x3.2.1 + (1 : Int))), (x3.2.2.1, y4.2))))))))
            else
              (some (Sum.inr (x3.1, (x3.2.2.1, x3.2.2.2))))) (y2.1, ((0 : Int), (y2.2, ([] : List (Int × Bool)))))) fun (y3 : (Bool × ((List (Int × Bool)) × (List (Int × Bool))))) =>
        Option.bind (loopM (X := (Bool × Int)) (E := Bool) (fun (x4 : (Bool × Int)) =>
            bif (decide (x4.2 < (((List.length x.1.2.2.2.2.1) : Nat) : Int))) then
              (gd ((0 : Int) ≤ x4.2) (gd (x4.2 < (((List.length x.1.2.2.2.2.1) : Nat) : Int)) (bif x4.1 then
                    (bif (!(List.getD x.1.2.2.2.2.1 (Int.toNat x4.2) false)) then
                      (some (Sum.inl (true, (Go.IntKind.wrap .i64 (x4.2 + (1 : Int))))))
                    else
                      (if x.1.1 = (0 : Int) then
                        (none)
                      else
                        (gd ((0 : Int) ≤ (Go.IntKind.wrap .i64 (Int.tdiv x4.2 x.1.1))) (gd ((Go.IntKind.wrap .i64 (Int.tdiv x4.2 x.1.1)) < (((List.length x.1.2.2.2.1) : Nat) : Int)) (some (Sum.inl ((decide ((List.getD x.1.2.2.2.1 (Int.toNat (Go.IntKind.wrap .i64 (Int.tdiv x4.2 x.1.1))) (0 : Int)) ≥ (0 : Int))), (Go.IntKind.wrap .i64 (x4.2 + (1 : Int))))))))))
                  else
                    (some (Sum.inl (false, (Go.IntKind.wrap .i64 (x4.2 + (1 : Int)))))))))
            else
              (some (Sum.inr x4.1))) (y3.1, (0 : Int))) fun (y4 : Bool) =>
        bif (!y4) then
          (some ((50 : Int), ()))
        else
          (some ((0 : Int), ()))))
    else
      (bif (decide (x.1.2.2.2.2.2.1.1 ≥ (0 : Int))) then
        (Option.bind (loopM (X := (Bool × (Int × (List (Int × Bool))))) (E := (Bool × (List (Int × Bool)))) (fun (x2 : (Bool × (Int × (List (Int × Bool))))) =>
            bif (decide (x2.2.1 < (((List.length x.1.2.2.2.1) : Nat) : Int))) then
              (gd ((0 : Int) ≤ x2.2.1) (gd (x2.2.1 < (((List.length x.1.2.2.2.1) : Nat) : Int)) (bif x2.1 then
                    (Option.bind (m61 ((List.getD x.1.2.2.2.1 (Int.toNat x2.2.1) (0 : Int)), ((-1 : Int), ((255 : Int), ())))) fun (y3 : (Bool × Unit)) =>
                    bif y3.1 then
                      (bif (decide ((List.getD x.1.2.2.2.1 (Int.toNat x2.2.1) (0 : Int)) ≥ (0 : Int))) then
                        (bif (decide ((List.getD x.1.2.2.2.1 (Int.toNat x2.2.1) (0 : Int)) ≥ (0 : Int))) then
                          (some (Sum.inl ((!(mget (false, (.int .i64)) x2.2.2 (List.getD x.1.2.2.2.1 (Int.toNat x2.2.1) (0 : Int)) false)), ((Go.IntKind.wrap .i64 (x2.2.1 + (1 : Int))), (mset (false, (.int .i64)) x2.2.2 (List.getD x.1.2.2.2.1 (Int.toNat x2.2.1) (0 : Int)) true)))))
                        else
                          (some (Sum.inl ((!(mget (false, (.int .i64)) x2.2.2 (List.getD x.1.2.2.2.1 (Int.toNat x2.2.1) (0 : Int)) false)), ((Go.IntKind.wrap .i64 (x2.2.1 + (1 : Int))), x2.2.2)))))
                      else
                        (bif (decide ((List.getD x.1.2.2.2.1 (Int.toNat x2.2.1) (0 : Int)) ≥ (0 : Int))) then
                          (some (Sum.inl (true, ((Go.IntKind.wrap .i64 (x2.2.1 + (1 : Int))), (mset (false, (.int .i64)) x2.2.2 (List.getD x.1.2.2.2.1 (Int.toNat x2.2.1) (0 : Int)) true)))))
                        else
                          (some (Sum.inl (true, ((Go.IntKind.wrap .i64 (x2.2.1 + (1 : Int))), x2.2.2))))))
                    else
                      (some (Sum.inl (false, ((Go.IntKind.wrap .i64 (x2.2.1 + (1 : Int))), x2.2.2)))))
                  else
                    (some (Sum.inl (false, ((Go.IntKind.wrap .i64 (x2.2.1 + (1 : Int))), x2.2.2)))))))
            else
              (some (Sum.inr (x2.1, x2.2.2)))) (true, ((0 : Int), (mset (false, (.int .i64)) ([] : List (Int × Bool)) x.1.2.2.2.2.2.1.1 true)))) fun (y2 : (Bool × (List (Int × Bool)))) =>
        Option.bind (loopM (X := (Bool × (Int × ((List (Int × Bool)) × (List (Int × Bool)))))) (E := (Bool × ((List (Int × Bool)) × (List (Int × Bool))))) (fun (x3 : (Bool × (Int × ((List (Int × Bool)) × (List (Int × Bool)))))) =>
            bif (decide (x3.2.1 < (((List.length x.1.2.2.2.2.2.2) : Nat) : Int))) then
              (gd ((0 : Int) ≤ x3.2.1) (gd (x3.2.1 < (((List.length x.1.2.2.2.2.2.2) : Nat) : Int)) (bif x3.1 then
                    (bif (decide ((List.getD x.1.2.2.2.2.2.2 (Int.toNat x3.2.1) ((0 : Int), ([] : List Int))).1 ≥ (0 : Int))) then
                      (bif (decide ((List.getD x.1.2.2.2.2.2.2 (Int.toNat x3.2.1) ((0 : Int), ([] : List Int))).1 ≥ (0 : Int))) then
                        (Option.bind (loopM (X := (Bool × (Int × (List (Int × Bool))))) (E := (Bool × (List (Int × Bool)))) (fun (x4 : (Bool × (Int × (List (Int × Bool))))) =>
                            bif (decide (x4.2.1 < (((List.length (List.getD x.1.2.2.2.2.2.2 (Int.toNat x3.2.1) ((0 : Int), ([] : List Int))).2) : Nat) : Int))) then
                              (gd ((0 : Int) ≤ x4.2.1) (gd (x4.2.1 < (((List.length (List.getD x.1.2.2.2.2.2.2 (Int.toNat x3.2.1) ((0 : Int), ([] : List Int))).2) : Nat) : Int)) (bif x4.1 then
                                    (bif (decide ((List.getD (List.getD x.1.2.2.2.2.2.2 (Int.toNat x3.2.1) ((0 : Int), ([] : List Int))).2 (Int.toNat x4.2.1) (0 : Int)) ≥ (0 : Int))) then
                                      (bif (decide ((List.getD (List.getD x.1.2.2.2.2.2.2 (Int.toNat x3.2.1) ((0 : Int), ([] : List Int))).2 (Int.toNat x4.2.1) (0 : Int)) ≥ (0 : Int))) then
                                        (some (Sum.inl ((!(mget (false, (.int .i64)) x4.2.2 (List.getD (List.getD x.1.2.2.2.2.2.2 (Int.toNat x3.2.1) ((0 : Int), ([] : List Int))).2 (Int.toNat x4.2.1) (0 : Int)) false)), ((Go.IntKind.wrap .i64 (x4.2.1 + (1 : Int))), (mset (false, (.int .i64)) x4.2.2 (List.getD (List.getD x.1.2.2.2.2.2.2 (Int.toNat x3.2.1) ((0 : Int), ([] : List Int))).2 (Int.toNat x4.2.1) (0 : Int)) true)))))
                                      else
                                        (some (Sum.inl ((!(mget (false, (.int .i64)) x4.2.2 (List.getD (List.getD x.1.2.2.2.2.2.2 (Int.toNat x3.2.1) ((0 : Int), ([] : List Int))).2 (Int.toNat x4.2.1) (0 : Int)) false)), ((Go.IntKind.wrap .i64 (x4.2.1 + (1 : Int))), x4.2.2)))))
                                    else
                                      (bif (decide ((List.getD (List.getD x.1.2.2.2.2.2.2 (Int.toNat x3.2.1) ((0 : Int), ([] : List Int))).2 (Int.toNat x4.2.1) (0 : Int)) ≥ (0 : Int))) then
                                        (some (Sum.inl (true, ((Go.IntKind.wrap .i64 (x4.2.1 + (1 : Int))), (mset (false, (.int .i64)) x4.2.2 (List.getD (List.getD x.1.2.2.2.2.2.2 (Int.toNat x3.2.1) ((0 : Int), ([] : List Int))).2 (Int.toNat x4.2.1) (0 : Int)) true)))))
                                      else
                                        (some (Sum.inl (true, ((Go.IntKind.wrap .i64 (x4.2.1 + (1 : Int))), x4.2.2))))))
                                  else
                                    (some (Sum.inl (false, ((Go.IntKind.wrap .i64 (x4.2.1 + (1 : Int))), x4.2.2)))))))
                            else
                              (some (Sum.inr (x4.1, x4.2.2)))) ((!(mget (false, (.int .i64)) x3.2.2.1 (List.getD x.1.2.2.2.2.2.2 (Int.toNat x3.2.1) ((0 : Int), ([] : List Int))).1 false)), ((0 : Int), x3.2.2.2))) fun (y4 : (Bool × (List (Int × Bool)))) =>
                        some (Sum.inl (y4.1, ((Go.IntKind.wrap .i64 (x3.2.1 + (1 : Int))), ((mset (false, (.int .i64)) x3.2.2.1 (List.getD x.1.2.2.2.2.2.2 (Int.toNat x3.2.1) ((0 : Int), ([] : List Int))).1 true), y4.2)))))
                      else
                        (Option.bind (loopM (X := (Bool × (Int × (List (Int × Bool))))) (E := (Bool × (List (Int × Bool)))) (fun (x4 : (Bool × (Int × (List (Int × Bool))))) =>
                            bif (decide (x4.2.1 < (((List.length (List.getD x.1.2.2.2.2.2.2 (Int.toNat x3.2.1) ((0 : Int), ([] : List Int))).2) : Nat) : Int))) then
                              (gd ((0 : Int) ≤ x4.2.1) (gd (x4.2.1 < (((List.length (List.getD x.1.2.2.2.2.2.2 (Int.toNat x3.2.1) ((0 : Int), ([] : List Int))).2) : Nat) : Int)) (bif x4.1 then
                                    (bif (decide ((List.getD (List.getD x.1.2.2.2.2.2.2 (Int.toNat x3.2.1) ((0 : Int), ([] : List Int))).2 (Int.toNat x4.2.1) (0 : Int)) ≥ (0 : Int))) then
                                      (bif (decide ((List.getD (List.getD x.1.2.2.2.2.2.2 (Int.toNat x3.2.1) ((0 : Int), ([] : List Int))).2 (Int.toNat x4.2.1) (0 : Int)) ≥ (0 : Int))) then
                                        (some (Sum.inl ((!(mget (false, (.int .i64)) x4.2.2 (List.getD (List.getD x.1.2.2.2.2.2.2 (Int.toNat x3.2.1) ((0 : Int), ([] : List Int))).2 (Int.toNat x4.2.1) (0 : Int)) false)), ((Go.IntKind.wrap .i64 (x4.2.1 + (1 : Int))), (mset (false, (.int .i64)) x4.2.2 (List.getD (List.getD x.1.2.2.2.2.2.2 (Int.toNat x3.2.1) ((0 : Int), ([] : List Int))).2 (Int.toNat x4.2.1) (0 : Int)) true)))))
                                      else
                                        (some (Sum.inl ((!(mget (false, (.int .i64)) x4.2.2 (List.getD (List.getD x.1.2.2.2.2.2.2 (Int.toNat x3.2.1) ((0 : Int), ([] : List Int))).2 (Int.toNat x4.2.1) (0 : Int)) false)), ((Go.IntKind.wrap .i64 (x4.2.1 + (1 : Int))), x4.2.2)))))
                                    else
                                      (bif (decide ((List.getD (List.getD x.1.2.2.2.2.2.2 (Int.toNat x3.2.1) ((0 : Int), ([] : List Int))).2 (Int.toNat x4.2.1) (0 : Int)) ≥ (0 : Int))) then
                                        (some (Sum.inl (true, ((Go.IntKind.wrap .i64 (x4.2.1 + (1 : Int))), (mset (false, (.int .i64)) x4.2.2 (List.getD (List.getD x.1.2.2.2.2.2.2 (Int.toNat x3.2.1) ((0 : Int), ([] : List Int))).2 (Int.toNat x4.2.1) (0 : Int)) true)))))
                                      else
                                        (some (Sum.inl (true, ((Go.IntKind.wrap .i64 (x4.2.1 + (1 : Int))), x4.2.2))))))
                                  else
                                    (some (Sum.inl (false, ((Go.IntKind.wrap .i64 (x4.2.1 + (1 : Int))), x4.2.2)))))))
                            else
                              (some (Sum.inr (x4.1, x4.2.2)))) ((!(mget (false, (.int .i64)) x3.2.2.1 (List.getD x.1.2.2.2.2.2.2 (Int.toNat x3.2.1) ((0 : Int), ([] : List Int))).1 false)), ((0 : Int), x3.2.2.2))) fun (y4 : (Bool × (List (Int × Bool)))) =>
                        some (Sum.inl (y4.1, ((Go.IntKind.wrap .i64 (x3.2.1 + (1 : Int))), (x3.2.2.1, y4.2))))))
                    else
                      (bif (decide ((List.getD x.1.2.2.2.2.2.2 (Int.toNat x3.2.1) ((0 : Int), ([] : List Int))).1 ≥ (0 : Int))) then
                        (Option.bind (loopM (X := (Bool × (Int × (List (Int × Bool))))) (E := (Bool × (List (Int × Bool)))) (fun (x4 : (Bool × (Int × (List (Int × Bool))))) =>
                            bif (decide (x4.2.1 < (((List.length (List.getD x.1.2.2.2.2.2.2 (Int.toNat x3.2.1) ((0 : Int), ([] : List Int))).2) : Nat) : Int))) then
                              (gd ((0 : Int) ≤ x4.2.1) (gd (x4.2.1 < (((List.length (List.getD x.1.2.2.2.2.2.2 (Int.toNat x3.2.1) ((0 : Int), ([] : List Int))).2) : Nat) : Int)) (bif x4.1 then
                                    (bif (decide ((List.getD (List.getD x.1.2.2.2.2.2.2 (Int.toNat x3.2.1) ((0 : Int), ([] : List Int))).2 (Int.toNat x4.2.1) (0 : Int)) ≥ (0 : Int))) then
                                      (bif (decide ((List.getD (List.getD x.1.2.2.2.2.2.2 (Int.toNat x3.2.1) ((0 : Int), ([] : List Int))).2 (Int.toNat x4.2.1) (0 : Int)) ≥ (0 : Int))) then
                                        (some (Sum.inl ((!(mget (false, (.int .i64)) x4.2.2 (List.getD (List.getD x.1.2.2.2.2.2.2 (Int.toNat x3.2.1) ((0 : Int), ([] : List Int))).2 (Int.toNat x4.2.1) (0 : Int)) false)), ((Go.IntKind.wrap .i64 (x4.2.1 + (1 : Int))), (mset (false, (.int .i64)) x4.2.2 (List.getD (List.getD x.1.2.2.2.2.2.2 (Int.toNat x3.2.1) ((0 : Int), ([] : List Int))).2 (Int.toNat x4.2.1) (0 : Int)) true)))))
                                      else
                                        (some (Sum.inl ((!(mget (false, (.int .i64)) x4.2.2 (List.getD (List.getD x.1.2.2.2.2.2.2 (Int.toNat x3.2.1) ((0 : Int), ([] : List Int))).2 (Int.toNat x4.2.1) (0 : Int)) false)), ((Go.IntKind.wrap .i64 (x4.2.1 + (1 : Int))), x4.2.2)))))
                                    else
                                      (bif (decide ((List.getD (List.getD x.1.2.2.2.2.2.2 (Int.toNat x3.2.1) ((0 : Int), ([] : List Int))).2 (Int.toNat x4.2.1) (0 : Int)) ≥ (0 : Int))) then
                                        (some (Sum.inl (true, ((Go.IntKind.wrap .i64 (x4.2.1 + (1 : Int))), (mset (false, (.int .i64)) x4.2.2 (List.getD (List.getD x.1.2.2.2.2.2.2 (Int.toNat x3.2.1) ((0 : Int), ([] : List Int))).2 (Int.toNat x4.2.1) (0 : Int)) true)))))
                                      else
                                        (some (Sum.inl (true, ((Go.IntKind.wrap .i64 (x4.2.1 + (1 : Int))), x4.2.2))))))
                                  else
                                    (some (Sum.inl (false, ((Go.IntKind.wrap .i64 (x4.2.1 + (1 : Int))), x4.2.2)))))))
                            else
                              (some (Sum.inr (x4.1, x4.2.2)))) (true, ((0 : Int), x3.2.2.2))) fun (y4 : (Bool × (List (Int × Bool)))) =>
                        some (Sum.inl (y4.1, ((Go.IntKind.wrap .i64 (x3.2.1 + (1 : Int))), ((mset (false, (.int .i64)) x3.2.2.1 (List.getD x.1.2.2.2.2.2.2 (Int.toNat x3.2.1) ((0 : Int), ([] : List Int))).1 true), y4.2)))))
                      else
                        (Option.bind (loopM (X := (Bool × (Int × (List (Int × Bool))))) (E := (Bool × (List (Int × Bool)))) (fun (x4 : (Bool × (Int × (List (Int × Bool))))) =>
                            bif (decide (x4.2.1 < (((List.length (List.getD x.1.2.2.2.2.2.2 (Int.toNat x3.2.1) ((0 : Int), ([] : List Int))).2) : Nat) : Int))) then
                              (gd ((0 : Int) ≤ x4.2.1) (gd (x4.2.1 < (((List.length (List.getD x.1.2.2.2.2.2.2 (Int.toNat x3.2.1) ((0 : Int), ([] : List Int))).2) : Nat) : Int)) (bif x4.1 then
                                    (bif (decide ((List.getD (List.getD x.1.2.2.2.2.2.2 (Int.toNat x3.2.1) ((0 : Int), ([] : List Int))).2 (Int.toNat x4.2.1) (0 : Int)) ≥ (0 : Int))) then
                                      (bif (decide ((List.getD (List.getD x.1.2.2.2.2.2.2 (Int.toNat x3.2.1) ((0 : Int), ([] : List Int))).2 (Int.toNat x4.2.1) (0 : Int)) ≥ (0 : Int))) then
                                        (some (Sum.inl ((!(mget (false, (.int .i64)) x4.2.2 (List.getD (List.getD x.1.2.2.2.2.2.2 (Int.toNat x3.2.1) ((0 : Int), ([] : List Int))).2 (Int.toNat x4.2.1) (0 : Int)) false)), ((Go.IntKind.wrap .i64 (x4.2.1 + (1 : Int))), (mset (false, (.int .i64)) x4.2.2 (List.getD (List.getD x.1.2.2.2.2.2.2 (Int.toNat x3.2.1) ((0 : Int), ([] : List Int))).2 (Int.toNat x4.2.1) (0 : Int)) true)))))
                                      else
                                        (some (Sum.inl ((!(mget (false, (.int .i64)) x4.2.2 (List.getD (List.getD x.1.2.2.2.2.2.2 (Int.toNat x3.2.1) ((0 : Int), ([] : List Int))).2 (Int.toNat x4.2.1) (0 : Int)) false)), ((Go.IntKind.wrap .i64 (x4.2.1 + (1 : Int))), x4.2.2)))))
                                    else
                                      (bif (decide ((List.getD (List.getD x.1.2.2.2.2.2.2 (Int.toNat x3.2.1) ((0 : Int), ([] : List Int))).2 (Int.toNat x4.2.1) (0 : Int)) ≥ (0 : Int))) then
                                        (some (Sum.inl (true, ((Go.IntKind.wrap .i64 (x4.2.1 + (1 : Int))), (mset (false, (.int .i64)) x4.2.2 (List.getD (List.getD x.1.2.2.2.2.2.2 (Int.toNat x3.2.1) ((0 : Int), ([] : List Int))).2 (Int.toNat x4.2.1) (0 : Int)) true)))))
                                      else
                                        (some (Sum.inl (true, ((Go.IntKind.wrap .i64 (x4.2.1 + (1 : Int))), x4.2.2))))))
                                  else
                                    (some (Sum.inl (false, ((Go.IntKind.wrap .i64 (x4.2.1 + (1 : Int))), x4.2.2)))))))
                            else
                              (some (Sum.inr (x4.1, x4.2.2)))) (true, ((0 : Int), x3.2.2.2))) fun (y4 : (Bool × (List (Int × Bool)))) =>
                        some (Sum.inl (y4.1, ((Go.IntKind.wrap .i64 (x3.2.1 + (1 : Int))), (x3.2.2.1, y4.2)))))))
                  else
                    (Option.bind (loopM (X := (Bool × (Int × (List (Int × Bool))))) (E := (Bool × (List (Int × Bool)))) (fun (x4 : (Bool × (Int × (List (Int × Bool))))) =>
                        bif (decide (x4.2.1 < (((List.length (List.getD x.1.2.2.2.2.2.2 (Int.toNat x3.2.1) ((0 : Int), ([] : List Int))).2) : Nat) : Int))) then
                          (gd ((0 : Int) ≤ x4.2.1) (gd (x4.2.1 < (((List.length (List.getD x.1.2.2.2.2.2.2 (Int.toNat x3.2.1) ((0 : Int), ([] : List Int))).2) : Nat) : Int)) (bif x4.1 then
                                (bif (decide ((List.getD (List.getD x.1.2.2.2.2.2.2 (Int.toNat x3.2.1) ((0 : Int), ([] : List Int))).2 (Int.toNat x4.2.1) (0 : Int)) ≥ (0 : Int))) then
                                  (bif (decide ((List.getD (List.getD x.1.2.2.2.2.2.2 (Int.toNat x3.2.1) ((0 : Int), ([] : List Int))).2 (Int.toNat x4.2.1) (0 : Int)) ≥ (0 : Int))) then
                                    (some (Sum.inl ((!(mget (false, (.int .i64)) x4.2.2 (List.getD (List.getD x.1.2.2.2.2.2.2 (Int.toNat x3.2.1) ((0 : Int), ([] : List Int))).2 (Int.toNat x4.2.1) (0 : Int)) false)), ((Go.IntKind.wrap .i64 (x4.2.1 + (1 : Int))), (mset (false, (.int .i64)) x4.2.2 (List.getD (List.getD x.1.2.2.2.2.2.2 (Int.toNat x3.2.1) ((0 : Int), ([] : List Int))).2 (Int.toNat x4.2.1) (0 : Int)) true)))))
                                  else
                                    (some (Sum.inl ((!(mget (false, (.int .i64)) x4.2.2 (List.getD (List.getD x.1.2.2.2.2.2.2 (Int.toNat x3.2.1) ((0 : Int), ([] : List Int))).2 (Int.toNat x4.2.1) (0 : Int)) false)), ((Go.IntKind.wrap .i64 (x4.2.1 + (1 : Int))), x4.2.2)))))
                                else
                                  (bif (decide ((List.getD (List.getD x.1.2.2.2.2.2.2 (Int.toNat x3.2.1) ((0 : Int), ([] : List Int))).2 (Int.toNat x4.2.1) (0 : Int)) ≥ (0 : Int))) then
                                    (some (Sum.inl (true, ((Go.IntKind.wrap .i64 (x4.2.1 + (1 : Int))), (mset (false, (.int .i64)) x4.2.2 (List.getD (List.getD x.1.2.2.2.2.2.2 (Int.toNat x3.2.1) ((0 : Int), ([] : List Int))).2 (Int.toNat x4.2.1) (0 : Int)) true)))))
                                  else
                                    (some (Sum.inl (true, ((Go.IntKind.wrap .i64 (x4.2.1 + (1 : Int))), x4.2.2))))))
                              else
                                (some (Sum.inl (false, ((Go.IntKind.wrap .i64 (x4.2.1 + (1 : Int))), x4.2.2)))))))
                        else
                          (some (Sum.inr (x4.1, x4.2.2)))) (false, ((0 : Int), x3.2.2.2))) fun (y4 : (Bool × (List (Int × Bool)))) =>
                    some (Sum.inl (y4.1, ((Go.IntKind.wrap .i64 (x3.2.1 + (1 : Int))), (x3.2.2.1, y4.2))))))))
            else
              (some (Sum.inr (x3.1, (x3.2.2.1, x3.2.2.2))))) (y2.1, ((0 : Int), (y2.2, ([] : List (Int × Bool)))))) fun (y3 : (Bool × ((List (Int × Bool)) × (List (Int × Bool))))) =>
        Option.bind (loopM (X := (Bool × Int)) (E := Bool) (fun (x4 : (Bool × Int)) =>
            bif (decide (x4.2 < (((List.length x.1.2.2.2.2.1) : Nat) : Int))) then
              (gd ((0 : Int) ≤ x4.2) (gd (x4.2 < (((List.length x.1.2.2.2.2.1) : Nat) : Int)) (bif x4.1 then
                    (bif (!(List.getD x.1.2.2.2.2.1 (Int.toNat x4.2) false)) then
                      (some (Sum.inl (true, (Go.IntKind.wrap .i64 (x4.2 + (1 : Int))))))
                    else
                      (if x.1.1 = (0 : Int) then
                        (none)
                      else
                        (gd ((0 : Int) ≤ (Go.IntKind.wrap .i64 (Int.tdiv x4.2 x.1.1))) (gd ((Go.IntKind.wrap .i64 (Int.tdiv x4.2 x.1.1)) < (((List.length x.1.2.2.2.1) : Nat) : Int)) (some (Sum.inl ((decide ((List.getD x.1.2.2.2.1 (Int.toNat (Go.IntKind.wrap .i64 (Int.tdiv x4.2 x.1.1))) (0 : Int)) ≥ (0 : Int))), (Go.IntKind.wrap .i64 (x4.2 + (1 : Int))))))))))
                  else
                    (some (Sum.inl (false, (Go.IntKind.wrap .i64 (x4.2 + (1 : Int)))))))))
            else
              (some (Sum.inr x4.1))) (y3.1, (0 : Int))) fun (y4 : Bool) =>
        bif (!y4) then
          (some ((50 : Int), ()))
        else
          (some ((0 : Int), ())))
      else
        (Option.bind (loopM (X := (Bool × (Int × (List (Int × Bool))))) (E := (Bool × (List (Int × Bool)))) (fun (x2 : (Bool × (Int × (List (Int × Bool))))) =>
            bif (decide (x2.2.1 < (((List.length x.1.2.2.2.1) : Nat) : Int))) then
              (gd ((0 : Int) ≤ x2.2.1) (gd (x2.2.1 < (((List.length x.1.2.2.2.1) : Nat) : Int)) (bif x2.1 then
                    (Option.bind (m61 ((List.getD x.1.2.2.2.1 (Int.toNat x2.2.1) (0 : Int)), ((-1 : Int), ((255 : Int), ())))) fun (y3 : (Bool × Unit)) =>
                    bif y3.1 then
                      (bif (decide ((List.getD x.1.2.2.2.1 (Int.toNat x2.2.1) (0 : Int)) ≥ (0 : Int))) then
                        (bif (decide ((List.getD x.1.2.2.2.1 (Int.toNat x2.2.1) (0 : Int)) ≥ (0 : Int))) then
                          (some (Sum.inl ((!(mget (false, (.int .i64)) x2.2.2 (List.getD x.1.2.2.2.1 (Int.toNat x2.2.1) (0 : Int)) false)), ((Go.IntKind.wrap .i64 (x2.2.1 + (1 : Int))), (mset (false, (.int .i64)) x2.2.2 (List.getD x.1.2.2.2.1 (Int.toNat x2.2.1) (0 : Int)) true)))))
                        else
                          (some (Sum.inl ((!(mget (false, (.int .i64)) x2.2.2 (List.getD x.1.2.2.2.1 (Int.toNat x2.2.1) (0 : Int)) false)), ((Go.IntKind.wrap .i64 (x2.2.1 + (1 : Int))), x2.2.2)))))
                      else
                        (bif (decide ((List.getD x.1.2.2.2.1 (Int.toNat x2.2.1) (0 : Int)) ≥ (0 : Int))) then
                          (some (Sum.inl (true, ((Go.IntKind.wrap .i64 (x2.2.1 + (1 : Int))), (mset (false, (.int .i64)) x2.2.2 (List.getD x.1.2.2.2.1 (Int.toNat x2.2.1) (0 : Int)) true)))))
                        else
                          (some (Sum.inl (true, ((Go.IntKind.wrap .i64 (x2.2.1 + (1 : Int))), x2.2.2))))))
                    else
                      (some (Sum.inl (false, ((Go.IntKind.wrap .i64 (x2.2.1 + (1 : Int))), x2.2.2)))))
                  else
                    (some (Sum.inl (false, ((Go.IntKind.wrap .i64 (x2.2.1 + (1 : Int))), x2.2.2)))))))
            else
              (some (Sum.inr (x2.1, x2.2.2)))) (true, ((0 : Int), ([] : List (Int × Bool))))) fun (y2 : (Bool × (List (Int × Bool)))) =>
        Option.bind (loopM (X := (Bool × (Int × ((List (Int × Bool)) × (List (Int × Bool)))))) (E := (Bool × ((List (Int × Bool)) × (List (Int × Bool))))) (fun (x3 : (Bool × (Int × ((List (Int × Bool)) × (List (Int × Bool)))))) =>
            bif (decide (x3.2.1 < (((List.length x.1.2.2.2.2.2.2) : Nat) : Int))) then
              (gd ((0 : Int) ≤ x3.2.1) (gd (x3.2.1 < (((List.length x.1.2.2.2.2.2.2) : Nat) : Int)) (bif x3.1 then
                    (bif (decide ((List.getD x.1.2.2.2.2.2.2 (Int.toNat x3.2.1) ((0 : Int), ([] : List Int))).1 ≥ (0 : Int))) then
                      (bif (decide ((List.getD x.1.2.2.2.2.2.2 (Int.toNat x3.2.1) ((0 : Int), ([] : List Int))).1 ≥ (0 : Int))) then
                        (Option.bind (loopM (X := (Bool × (Int × (List (Int × Bool))))) (E := (Bool × (List (Int × Bool)))) (fun (x4 : (Bool × (Int × (List (Int × Bool))))) =>
                            bif (decide (x4.2.1 < (((List.length (List.getD x.1.2.2.2.2.2.2 (Int.toNat x3.2.1) ((0 : Int), ([] : List Int))).2) : Nat) : Int))) then
                              (gd ((0 : Int) ≤ x4.2.1) (gd (x4.2.1 < (((List.length (List.getD x.1.2.2.2.2.2.2 (Int.toNat x3.2.1) ((0 : Int), ([] : List Int))).2) : Nat) : Int)) (bif x4.1 then
                                    (bif (decide ((List.getD (List.getD x.1.2.2.2.2.2.2 (Int.toNat x3.2.1) ((0 : Int), ([] : List Int))).2 (Int.toNat x4.2.1) (0 : Int)) ≥ (0 : Int))) then
                                      (bif (decide ((List.getD (List.getD x.1.2.2.2.2.2.2 (Int.toNat x3.2.1) ((0 : Int), ([] : List Int))).2 (Int.toNat x4.2.1) (0 : Int)) ≥ (0 : Int))) then
                                        (some (Sum.inl ((!(mget (false, (.int .i64)) x4.2.2 (List.getD (List.getD x.1.2.2.2.2.2.2 (Int.toNat x3.2.1) ((0 : Int), ([] : List Int))).2 (Int.toNat x4.2.1) (0 : Int)) false)), ((Go.IntKind.wrap .i64 (x4.2.1 + (1 : Int))), (mset (false, (.int .i64)) x4.2.2 (List.getD (List.getD x.1.2.2.2.2.2.2 (Int.toNat x3.2.1) ((0 : Int), ([] : List Int))).2 (Int.toNat x4.2.1) (0 : Int)) true)))))
                                      else
                                        (some (Sum.inl ((!(mget (false, (.int .i64)) x4.2.2 (List.getD (List.getD x.1.2.2.2.2.2.2 (Int.toNat x3.2.1) ((0 : Int), ([] : List Int))).2 (Int.toNat x4.2.1) (0 : Int)) false)), ((Go.IntKind.wrap .i64 (x4.2.1 + (1 : Int))), x4.2.2)))))
                                    else
                                      (bif (decide ((List.getD (List.getD x.1.2.2.2.2.2.2 (Int.toNat x3.2.1) ((0 : Int), ([] : List Int))).2 (Int.toNat x4.2.1) (0 : Int)) ≥ (0 : Int))) then
                                        (some (Sum.inl (true, ((Go.IntKind.wrap .i64 (x4.2.1 + (1 : Int))), (mset (false, (.int .i64)) x4.2.2 (List.getD (List.getD x.1.2.2.2.2.2.2 (Int.toNat x3.2.1) ((0 : Int), ([] : List Int))).2 (Int.toNat x4.2.1) (0 : Int)) true)))))
                                      else
                                        (some (Sum.inl (true, ((Go.IntKind.wrap .i64 (x4.2.1 + (1 : Int))), x4.2.2))))))
                                  else
                                    (some (Sum.inl (false, ((Go.IntKind.wrap .i64 (x4.2.1 + (1 : Int))), x4.2.2)))))))
                            else
                              (some (Sum.inr (x4.1, x4.2.2)))) ((!(mget (false, (.int .i64)) x3.2.2.1 (List.getD x.1.2.2.2.2.2.2 (Int.toNat x3.2.1) ((0 : Int), ([] : List Int))).1 false)), ((0 : Int), x3.2.2.2))) fun (y4 : (Bool × (List (Int × Bool)))) =>
                        some (Sum.inl (y4.1, ((Go.IntKind.wrap .i64 (x3.2.1 + (1 : Int))), ((mset (false, (.int .i64)) x3.2.2.1 (List.getD x.1.2.2.2.2.2.2 (Int.toNat x3.2.1) ((0 : Int), ([] : List Int))).1 true), y4.2)))))
                      else
                        (Option.bind (loopM (X := (Bool × (Int × (List (Int × Bool))))) (E := (Bool × (List (Int × Bool)))) (fun (x4 : (Bool × (Int × (List (Int × Bool))))) =>
                            bif (decide (x4.2.1 < (((List.length (List.getD x.1.2.2.2.2.2.2 (Int.toNat x3.2.1) ((0 : Int), ([] : List Int))).2) : Nat) : Int))) then
                              (gd ((0 : Int) ≤ x4.2.1) (gd (x4.2.1 < (((List.length (List.getD x.1.2.2.2.2.2.2 (Int.toNat x3.2.1) ((0 : Int), ([] : List Int))).2) : Nat) : Int)) (bif x4.1 then
                                    (bif (decide ((List.getD (List.getD x.1.2.2.2.2.2.2 (Int.toNat x3.2.1) ((0 : Int), ([] : List Int))).2 (Int.toNat x4.2.1) (0 : Int)) ≥ (0 : Int))) then
                                      (bif (decide ((List.getD (List.getD x.1.2.2.2.2.2.2 (Int.toNat x3.2.1) ((0 : Int), ([] : List Int))).2 (Int.toNat x4.2.1) (0 : Int)) ≥ (0 : Int))) then
                                        (some (Sum.inl ((!(mget (false, (.int .i64)) x4.2.2 (List.getD (List.getD x.1.2.2.2.2.2.2 (Int.toNat x3.2.1) ((0 : Int), ([] : List Int))).2 (Int.toNat x4.2.1) (0 : Int)) false)), ((Go.IntKind.wrap .i64 (x4.2.1 + (1 : Int))), (mset (false, (.int .i64)) x4.2.2 (List.getD (List.getD x.1.2.2.2.2.2.2 (Int.toNat x3.2.1) ((0 : Int), ([] : List Int))).2 (Int.toNat x4.2.1) (0 : Int)) true)))))
                                      else
                                        (some (Sum.inl ((!(mget (false, (.int .i64)) x4.2.2 (List.getD (List.getD x.1.2.2.2.2.2.2 (Int.toNat x3.2.1) ((0 : Int), ([] : List Int))).2 (Int.toNat x4.2.1) (0 : Int)) false)), ((Go.IntKind.wrap .i64 (x4.2.1 + (1 : Int))), x4.2.2)))))
                                    else
                                      (bif (decide ((List.getD (List.getD x.1.2.2.2.2.2.2 (Int.toNat x3.2.1) ((0 : Int), ([] : List Int))).2 (Int.toNat x4.2.1) (0 : Int)) ≥ (0 : Int))) then
                                        (some (Sum.inl (true, ((Go.IntKind.wrap .i64 (x4.2.1 + (1 : Int))), (mset (false, (.int .i64)) x4.2.2 (List.getD (List.getD x.1.2.2.2.2.2.2 (Int.toNat x3.2.1) ((0 : Int), ([] : List Int))).2 (Int.toNat x4.2.1) (0 : Int)) true)))))
                                      else
                                        (some (Sum.inl (true, ((Go.IntKind.wrap .i64 (x4.2.1 + (1 : Int))), x4.2.2))))))
                                  else
                                    (some (Sum.inl (false, ((Go.IntKind.wrap .i64 (x4.2.1 + (1 : Int))), x4.2.2)))))))
                            else
                              (some (Sum.inr (x4.1, x4.2.2)))) ((!(mget (false, (.int .i64)) x3.2.2.1 (List.getD x.1.2.2.2.2.2.2 (Int.toNat x3.2.1) ((0 : Int), ([] : List Int))).1 false)), ((0 : Int), x3.2.2.2))) fun (y4 : (Bool × (List (Int × Bool)))) =>
                        some (Sum.inl (y4.1, ((Go.IntKind.wrap .i64 (x3.2.1 + (1 : Int))), (x3.2.2.1, y4.2))))))
                    else
                      (bif (decide ((List.getD x.1.2.2.2.2.2.2 (Int.toNat x3.2.1) ((0 : Int), ([] : List Int))).1 ≥ (0 : Int))) then
                        (Option.bind (loopM (X := (Bool × (Int × (List (Int × Bool))))) (E := (Bool × (List (Int × Bool)))) (fun (x4 : (Bool × (Int × (List (Int × Bool))))) =>
                            bif (decide (x4.2.1 < (((List.length (List.getD x.1.2.2.2.2.2.2 (Int.toNat x3.2.1) ((0 : Int), ([] : List Int))).2) : Nat) : Int))) then
                              (gd ((0 : Int) ≤ x4.2.1) (gd (x4.2.1 < (((List.length (List.getD x.1.2.2.2.2.2.2 (Int.toNat x3.2.1) ((0 : Int), ([] : List Int))).2) : Nat) : Int)) (bif x4.1 then
                                    (bif (decide ((List.getD (List.getD x.1.2.2.2.2.2.2 (Int.toNat x3.2.1) ((0 : Int), ([] : List Int))).2 (Int.toNat x4.2.1) (0 : Int)) ≥ (0 : Int))) then
                                      (bif (decide ((List.getD (List.getD x.1.2.2.2.2.2.2 (Int.toNat x3.2.1) ((0 : Int), ([] : List Int))).2 (Int.toNat x4.2.1) (0 : Int)) ≥ (0 : Int))) then
                                        (some (Sum.inl ((!(mget (false, (.int .i64)) x4.2.2 (List.getD (List.getD x.1.2.2.2.2.2.2 (Int.toNat x3.2.1) ((0 : Int), ([] : List Int))).2 (Int.toNat x4.2.1) (0 : Int)) false)), ((Go.IntKind.wrap .i64 (x4.2.1 + (1 : Int))), (mset (false, (.int .i64)) x4.2.2 (List.getD (List.getD x.1.2.2.2.2.2.2 (Int.toNat x3.2.1) ((0 : Int), ([] : List Int))).2 (Int.toNat x4.2.1) (0 : Int)) true)))))
                                      else
                                        (some (Sum.inl ((!(mget (false, (.int .i64)) x4.2.2 (List.getD (List.getD x.1.2.2.2.2.2.2 (Int.toNat x3.2.1) ((0 : Int), ([] : List Int))).2 (Int.toNat x4.2.1) (0 : Int)) false)), ((Go.IntKind.wrap .i64 (x4.2.1 + (1 : Int))), x4.2.2)))))
                                    else
                                      (bif (decide ((List.getD (List.getD x.1.2.2.2.2.2.2 (Int.toNat x3.2.1) ((0 : Int), ([] : List Int))).2 (Int.toNat x4.2.1) (0 : Int)) ≥ (0 : Int))) then
                                        (some (Sum.inl (true, ((Go.IntKind.wrap .i64 (x4.2.1 + (1 : Int))), (mset (false, (.int .i64)) x4.2.2 (List.getD (List.getD x.1.2.2.2.2.2.2 (Int.toNat x3.2.1) ((0 : Int), ([] : List Int))).2 (Int.toNat x4.2.1) (0 : Int)) true)))))
                                      else
                                        (some (Sum.inl (true, ((Go.IntKind.wrap .i64 (x4.2.1 + (1 : Int))), x4.2.2))))))
                                  else
                                    (some (Sum.inl (false, ((Go.IntKind.wrap .i64 (x4.2.1 + (1 : Int))), x4.2.2)))))))
                            else
                              (some (Sum.inr (x4.1, x4.2.2)))) (true, ((0 : Int), x3.2.2.2))) fun (y4 : (Bool × (List (Int × Bool)))) =>
                        some (Sum.inl (y4.1, ((Go.IntKind.wrap .i64 (x3.2.1 + (1 : Int))), ((mset (false, (.int .i64)) x3.2.2.1 (List.getD x.1.2.2.2.2.2.2 (Int.toNat x3.2.1) ((0 : Int), ([] : List Int))).1 true), y4.2)))))
                      else
                        (Option.bind (loopM (X := (Bool × (Int × (List (Int × Bool))))) (E := (Bool × (List (Int × Bool)))) (fun (x4 : (Bool × (Int × (List (Int × Bool))))) =>
                            bif (decide (x4.2.1 < (((List.length (List.getD x.1.2.2.2.2.2.2 (Int.toNat x3.2.1) ((0 : Int), ([] : List Int))).2) : Nat) : Int))) then
                              (gd ((0 : Int) ≤ x4.2.1) (gd (x4.2.1 < (((List.length (List.getD x.1.2.2.2.2.2.2 (Int.toNat x3.2.1) ((0 : Int), ([] : List Int))).2) : Nat) : Int)) (bif x4.1 then
                                    (bif (decide ((List.getD (List.getD x.1.2.2.2.2.2.2 (Int.toNat x3.2.1) ((0 : Int), ([] : List Int))).2 (Int.toNat x4.2.1) (0 : Int)) ≥ (0 : Int))) then
                                      (bif (decide ((List.getD (List.getD x.1.2.2.2.2.2.2 (Int.toNat x3.2.1) ((0 : Int), ([] : List Int))).2 (Int.toNat x4.2.1) (0 : Int)) ≥ (0 : Int))) then
                                        (some (Sum.inl ((!(mget (false, (.int .i64)) x4.2.2 (List.getD (List.getD x.1.2.2.2.2.2.2 (Int.toNat x3.2.1) ((0 : Int), ([] : List Int))).2 (Int.toNat x4.2.1) (0 : Int)) false)), ((Go.IntKind.wrap .i64 (x4.2.1 + (1 : Int))), (mset (false, (.int .i64)) x4.2.2 (List.getD (List.getD x.1.2.2.2.2.2.2 (Int.toNat x3.2.1) ((0 : Int), ([] : List Int))).2 (Int.toNat x4.2.1) (0 : Int)) true)))))
                                      else
                                        (some (Sum.inl ((!(mget (false, (.int .i64)) x4.2.2 (List.getD (List.getD x.1.2.2.2.2.2.2 (Int.toNat x3.2.1) ((0 : Int), ([] : List Int))).2 (Int.toNat x4.2.1) (0 : Int)) false)), ((Go.IntKind.wrap .i64 (x4.2.1 + (1 : Int))), x4.2.2)))))
                                    else
                                      (bif (decide ((List.getD (List.getD x.1.2.2.2.2.2.2 (Int.toNat x3.2.1) ((0 : Int), ([] : List Int))).2 (Int.toNat x4.2.1) (0 : Int)) ≥ (0 : Int))) then
                                        (some (Sum.inl (true, ((Go.IntKind.wrap .i64 (x4.2.1 + (1 : Int))), (mset (false, (.int .i64)) x4.2.2 (List.getD (List.getD x.1.2.2.2.2.2.2 (Int.toNat x3.2.1) ((0 : Int), ([] : List Int))).2 (Int.toNat x4.2.1) (0 : Int)) true)))))
                                      else
                                        (some (Sum.inl (true, ((Go.IntKind.wrap .i64 (x4.2.1 + (1 : Int))), x4.2.2))))))
                                  else
                                    (some (Sum.inl (false, ((Go.IntKind.wrap .i64 (x4.2.1 + (1 : Int))), x4.2.2)))))))
                            else
                              (some (Sum.inr (x4.1, x4.2.2)))) (true, ((0 : Int), x3.2.2.2))) fun (y4 : (Bool × (List (Int × Bool)))) =>
                        some (Sum.inl (y4.1, ((Go.IntKind.wrap .i64 (x3.2.1 + (1 : Int))), (x3.2.2.1, y4.2)))))))
                  else
                    (Option.bind (loopM (X := (Bool × (Int × (List (Int × Bool))))) (E := (Bool × (List (Int × Bool)))) (fun (x4 : (Bool × (Int × (List (Int × Bool))))) =>
                        bif (decide (x4.2.1 < (((List.length (List.getD x.1.2.2.2.2.2.2 (Int.toNat x3.2.1) ((0 : Int), ([] : List Int))).2) : Nat) : Int))) then
                          (gd ((0 : Int) ≤ x4.2.1) (gd (x4.2.1 < (((List.length (List.getD x.1.2.2.2.2.2.2 (Int.toNat x3.2.1) ((0 : Int), ([] : List Int))).2) : Nat) : Int)) (bif x4.1 then
                                (bif (decide ((List.getD (List.getD x.1.2.2.2.2.2.2 (Int.toNat x3.2.1) ((0 : Int), ([] : List Int))).2 (Int.toNat x4.2.1) (0 : Int)) ≥ (0 : Int))) then
                                  (bif (decide ((List.getD (List.getD x.1.2.2.2.2.2.2 (Int.toNat x3.2.1) ((0 : Int), ([] : List Int))).2 (Int.toNat x4.2.1) (0 : Int)) ≥ (0 : Int))) then
                                    (some (Sum.inl ((!(mget (false, (.int .i64)) x4.2.2 (List.getD (List.getD x.1.2.2.2.2.2.2 (Int.toNat x3.2.1) ((0 : Int), ([] : List Int))).2 (Int.toNat x4.2.1) (0 : Int)) false)), ((Go.IntKind.wrap .i64 (x4.2.1 + (1 : Int))), (mset (false, (.int .i64)) x4.2.2 (List.getD (List.getD x.1.2.2.2.2.2.2 (Int.toNat x3.2.1) ((0 : Int), ([] : List Int))).2 (Int.toNat x4.2.1) (0 : Int)) true)))))
                                  else
                                    (some (Sum.inl ((!(mget (false, (.int .i64)) x4.2.2 (List.getD (List.getD x.1.2.2.2.2.2.2 (Int.toNat x3.2.1) ((0 : Int), ([] : List Int))).2 (Int.toNat x4.2.1) (0 : Int)) false)), ((Go.IntKind.wrap .i64 (x4.2.1 + (1 : Int))), x4.2.2)))))
                                else
                                  (bif (decide ((List.getD (List.getD x.1.2.2.2.2.2.2 (Int.toNat x3.2.1) ((0 : Int), ([] : List Int))).2 (Int.toNat x4.2.1) (0 : Int)) ≥ (0 : Int))) then
                                    (some (Sum.inl (true, ((Go.IntKind.wrap .i64 (x4.2.1 + (1 : Int))), (mset (false, (.int .i64)) x4.2.2 (List.getD (List.getD x.1.2.2.2.2.2.2 (Int.toNat x3.2.1) ((0 : Int), ([] : List Int))).2 (Int.toNat x4.2.1) (0 : Int)) true)))))
                                  else
                                    (some (Sum.inl (true, ((Go.IntKind.wrap .i64 (x4.2.1 + (1 : Int))), x4.2.2))))))
                              else
                                (some (Sum.inl (false, ((Go.IntKind.wrap .i64 (x4.2.1 + (1 : Int))), x4.2.2)))))))
                        else
                          (some (Sum.inr (x4.1, x4.2.2)))) (false, ((0 : Int), x3.2.2.2))) fun (y4 : (Bool × (List (Int × Bool)))) =>
                    some (Sum.inl (y4.1, ((Go.IntKind.wrap .i64 (x3.2.1 + (1 : Int))), (x3.2.2.1, y4.2))))))))
            else
              (some (Sum.inr (x3.1, (x3.2.2.1, x3.2.2.2))))) (y2.1, ((0 : Int), (y2.2, ([] : List (Int × Bool)))))) fun (y3 : (Bool × ((List (Int × Bool)) × (List (Int × Bool))))) =>
        Option.bind (loopM (X := (Bool × Int)) (E := Bool) (fun (x4 : (Bool × Int)) =>
            bif (decide (x4.2 < (((List.length x.1.2.2.2.2.1) : Nat) : Int))) then
              (gd ((0 : Int) ≤ x4.2) (gd (x4.2 < (((List.length x.1.2.2.2.2.1) : Nat) : Int)) (bif x4.1 then
                    (bif (!(List.getD x.1.2.2.2.2.1 (Int.toNat x4.2) false)) then
                      (some (Sum.inl (true, (Go.IntKind.wrap .i64 (x4.2 + (1 : Int))))))
                    else
                      (if x.1.1 = (0 : Int) then
                        (none)
                      else
                        (gd ((0 : Int) ≤ (Go.IntKind.wrap .i64 (Int.tdiv x4.2 x.1.1))) (gd ((Go.IntKind.wrap .i64 (Int.tdiv x4.2 x.1.1)) < (((List.length x.1.2.2.2.1) : Nat) : Int)) (some (Sum.inl ((decide ((List.getD x.1.2.2.2.1 (Int.toNat (Go.IntKind.wrap .i64 (Int.tdiv x4.2 x.1.1))) (0 : Int)) ≥ (0 : Int))), (Go.IntKind.wrap .i64 (x4.2 + (1 : Int))))))))))
                  else
                    (some (Sum.inl (false, (Go.IntKind.wrap .i64 (x4.2 + (1 : Int)))))))))
            else
              (some (Sum.inr x4.1))) (y3.1, (0 : Int))) fun (y4 : Bool) =>
        bif (!y4) then
          (some ((50 : Int), ()))
        else
          (some ((0 : Int), ())))))

noncomputable def i84_101 : ID := aInl Try.prog (envOf [] [] [] []) ⟨[], []⟩ Try.f101
noncomputable def r84 : PDen [(true, (.pair (.int .i64) (.pair (.int .i64) (.pair (.int .i64) (.pair (.sl (.int .i64)) (.pair (.sl .bool) (.pair (.pair (.int .i64) (.pair (.int .i64) (.int .i64))) (.sl (.pair (.int .i64) (.sl (.int .i64)))))))))))] → Option (PDen [(false, (.int .i64))]) := fun x => afun Try.prog (envOf [(61, ⟨[(false, (.int .i64)), (false, (.int .i64)), (false, (.int .i64))], [(false, .bool)], false, m61⟩), (100, ⟨[(true, (.pair (.int .i64) (.pair (.int .i64) (.pair (.int .i64) (.pair (.sl (.int .i64)) (.pair (.sl .bool) (.pair (.pair (.int .i64) (.pair (.int .i64) (.int .i64))) (.sl (.pair (.int .i64) (.sl (.int .i64)))))))))))], [(false, .bool)], false, m100⟩)] [] [] [(101, i84_101)]) ⟨[(0, ⟨[.slot 6 (.d false .bool true), .slot 29 (.d false (.int .i64) true), .map 1 (false, (.int .i64)) (false, .bool) true], [], [(some 0, [.slot 6 (.d false .bool true), .map 1 (false, (.int .i64)) (false, .bool) true])], none⟩), (2, ⟨[.slot 6 (.d false .bool true), .slot 48 (.d false (.int .i64) true), .map 1 (false, (.int .i64)) (false, .bool) true, .map 2 (false, (.int .i64)) (false, .bool) true], [], [(some 2, [.slot 6 (.d false .bool true), .map 1 (false, (.int .i64)) (false, .bool) true, .map 2 (false, (.int .i64)) (false, .bool) true])], none⟩), (4, ⟨[.slot 6 (.d false .bool true), .slot 63 (.d false (.int .i64) true), .map 2 (false, (.int .i64)) (false, .bool) true], [], [(some 4, [.slot 6 (.d false .bool true), .map 2 (false, (.int .i64)) (false, .bool) true])], none⟩), (6, ⟨[.slot 6 (.d false .bool true), .slot 79 (.d false (.int .i64) true)], [], [(some 6, [.slot 6 (.d false .bool true)])], none⟩)], []⟩ Try.f84 [(true, (.pair (.int .i64) (.pair (.int .i64) (.pair (.int .i64) (.pair (.sl (.int .i64)) (.pair (.sl .bool) (.pair (.pair (.int .i64) (.pair (.int .i64) (.int .i64))) (.sl (.pair (.int .i64) (.sl (.int .i64)))))))))))] [(false, (.int .i64))] false x
theorem r84_eq : r84 = m84 := by kernel_rfl

theorem i84_101_sound : i84_101.Sound Try.prog 101 := aInl_sound' (envOf_sound (CSs.nil) (HDs.nil) (IDs.nil)) Try.follows (f := 101) (fn := Try.f101) Try.func101 (by kernel_rfl) (by kernel_rfl)
theorem c84 : CS.Sound Try.prog 84 ⟨[(true, (.pair (.int .i64) (.pair (.int .i64) (.pair (.int .i64) (.pair (.sl (.int .i64)) (.pair (.sl .bool) (.pair (.pair (.int .i64) (.pair (.int .i64) (.int .i64))) (.sl (.pair (.int .i64) (.sl (.int .i64)))))))))))], [(false, (.int .i64))], false, m84⟩ := afun_sound' (envOf_sound (CSs.cons c61 (CSs.cons c100 (CSs.nil))) (HDs.nil) (IDs.cons i84_101_sound (IDs.nil))) rfl Try.follows (f := 84) (fn := Try.f84) Try.func84 (by kernel_rfl) (by kernel_rfl) r84_eq
end Go.Proofs.Ytefekolpfklhdaa
end

section
/- What function 60 (slipway/plan.may) computes, by the kernel. -/
open Go Go.Proofs.AM
namespace Go.Proofs.Ytefekolpfklhdaa

noncomputable def m60 (x : (Int × (Int × (Int × ((List Int) × ((List Bool) × ((Int × (Int × Int)) × (List (Int × (List Int))))))))) × Unit) : Option ((Int × (Int × (Int × ((List Int) × ((List Bool) × ((Int × (Int × Int)) × (List (Int × (List Int))))))))) × Unit) :=
  Option.bind (m84 (x.1, ())) fun (y1 : (Int × Unit)) =>
  bif (!(decide (y1.1 = (0 : Int)))) then
    (Option.bind (m38 ((4 : Int), ((1 : Int), ((1 : Int), ())))) fun (y2 : ((Int × (Int × (Int × ((List Int) × ((List Bool) × ((Int × (Int × Int)) × (List (Int × (List Int))))))))) × (Int × Unit))) =>
    some (y2.1, ()))
  else
    (some (x.1, ()))

noncomputable def r60 : PDen [(true, (.pair (.int .i64) (.pair (.int .i64) (.pair (.int .i64) (.pair (.sl (.int .i64)) (.pair (.sl .bool) (.pair (.pair (.int .i64) (.pair (.int .i64) (.int .i64))) (.sl (.pair (.int .i64) (.sl (.int .i64)))))))))))] → Option (PDen [(true, (.pair (.int .i64) (.pair (.int .i64) (.pair (.int .i64) (.pair (.sl (.int .i64)) (.pair (.sl .bool) (.pair (.pair (.int .i64) (.pair (.int .i64) (.int .i64))) (.sl (.pair (.int .i64) (.sl (.int .i64)))))))))))]) := fun x => afun Try.prog (envOf [(84, ⟨[(true, (.pair (.int .i64) (.pair (.int .i64) (.pair (.int .i64) (.pair (.sl (.int .i64)) (.pair (.sl .bool) (.pair (.pair (.int .i64) (.pair (.int .i64) (.int .i64))) (.sl (.pair (.int .i64) (.sl (.int .i64)))))))))))], [(false, (.int .i64))], false, m84⟩)] [(38, OM.hd ⟨[(false, (.int .i64)), (false, (.int .i64)), (false, (.int .i64))], [(true, (.pair (.int .i64) (.pair (.int .i64) (.pair (.int .i64) (.pair (.sl (.int .i64)) (.pair (.sl .bool) (.pair (.pair (.int .i64) (.pair (.int .i64) (.int .i64))) (.sl (.pair (.int .i64) (.sl (.int .i64))))))))))), (false, (.int .i64))], [(.p .d (.p .d (.p .d (.p (.s 3) (.p (.s 4) .d))))), .d], false, m38⟩)] [] []) ⟨[], []⟩ Try.f60 [(true, (.pair (.int .i64) (.pair (.int .i64) (.pair (.int .i64) (.pair (.sl (.int .i64)) (.pair (.sl .bool) (.pair (.pair (.int .i64) (.pair (.int .i64) (.int .i64))) (.sl (.pair (.int .i64) (.sl (.int .i64)))))))))))] [(true, (.pair (.int .i64) (.pair (.int .i64) (.pair (.int .i64) (.pair (.sl (.int .i64)) (.pair (.sl .bool) (.pair (.pair (.int .i64) (.pair (.int .i64) (.int .i64))) (.sl (.pair (.int .i64) (.sl (.int .i64)))))))))))] true x
theorem r60_eq : r60 = m60 := by kernel_rfl

theorem c60 : CS.Sound Try.prog 60 ⟨[(true, (.pair (.int .i64) (.pair (.int .i64) (.pair (.int .i64) (.pair (.sl (.int .i64)) (.pair (.sl .bool) (.pair (.pair (.int .i64) (.pair (.int .i64) (.int .i64))) (.sl (.pair (.int .i64) (.sl (.int .i64)))))))))))], [(true, (.pair (.int .i64) (.pair (.int .i64) (.pair (.int .i64) (.pair (.sl (.int .i64)) (.pair (.sl .bool) (.pair (.pair (.int .i64) (.pair (.int .i64) (.int .i64))) (.sl (.pair (.int .i64) (.sl (.int .i64)))))))))))], true, m60⟩ := afun_sound' (envOf_sound (CSs.cons c84 (CSs.nil)) (HDs.cons (OM.Sound.hd c38) (HDs.nil)) (IDs.nil)) rfl Try.follows (f := 60) (fn := Try.f60) Try.func60 (by kernel_rfl) (by kernel_rfl) r60_eq
end Go.Proofs.Ytefekolpfklhdaa
end

section
/- What function 62 (slipway/plan.where) computes, by the kernel. -/
open Go Go.Proofs.AM
namespace Go.Proofs.Ytefekolpfklhdaa

noncomputable def m62 (x : (Int × (Int × (Int × ((List Int) × ((List Bool) × ((Int × (Int × Int)) × (List (Int × (List Int))))))))) × Int × Unit) : Option ((Int × Int) × (Bool × Unit)) :=
  Option.bind (loopM (X := (Int × (Int × Int))) (E := ((Int × Int) ⊕ (Bool × (Int × Int)))) (fun (x1 : (Int × (Int × Int))) =>
      bif (decide (x1.1 < (((List.length x.1.2.2.2.2.2.2) : Nat) : Int))) then
        (gd ((0 : Int) ≤ x1.1) (gd (x1.1 < (((List.length x.1.2.2.2.2.2.2) : Nat) : Int)) (Option.bind (m59 ((List.getD x.1.2.2.2.2.2.2 (Int.toNat x1.1) ((0 : Int), ([] : List Int))).2, (x.2.1, ()))) fun (y2 : (Int × Unit)) =>
            bif (decide (y2.1 ≥ (0 : Int))) then
              (some (Sum.inr (Sum.inr (true, ((List.getD x.1.2.2.2.2.2.2 (Int.toNat x1.1) ((0 : Int), ([] : List Int))).1, y2.1)))))
            else
              (some (Sum.inl ((Go.IntKind.wrap .i64 (x1.1 + (1 : Int))), (x1.2.1, x1.2.2)))))))
      else
        (some (Sum.inr (Sum.inl (x1.2.1, x1.2.2))))) ((0 : Int), ((0 : Int), (0 : Int)))) fun (y1 : ((Int × Int) ⊕ (Bool × (Int × Int)))) =>
  Sum.elim (fun y2 =>
    if x.1.1 = (0 : Int) then
      (none)
    else
      (if x.1.1 = (0 : Int) then
        (none)
      else
        (bif (decide (x.1.2.2.2.2.2.1.1 ≥ (0 : Int))) then
          (bif (decide (x.1.2.2.2.2.2.1.2.1 = (Go.IntKind.wrap .i64 (Int.tdiv x.2.1 x.1.1)))) then
            (bif (decide (x.1.2.2.2.2.2.1.2.2 > (Int.tmod x.2.1 x.1.1))) then
              (some ((x.1.2.2.2.2.2.1.1, (Int.tmod x.2.1 x.1.1)), (true, ())))
            else
              (gd ((0 : Int) ≤ x.2.1) (gd (x.2.1 < (((List.length x.1.2.2.2.2.1) : Nat) : Int)) (bif (List.getD x.1.2.2.2.2.1 (Int.toNat x.2.1) false) then
                    (gd ((0 : Int) ≤ (Go.IntKind.wrap .i64 (Int.tdiv x.2.1 x.1.1))) (gd ((Go.IntKind.wrap .i64 (Int.tdiv x.2.1 x.1.1)) < (((List.length x.1.2.2.2.1) : Nat) : Int)) (some (((List.getD x.1.2.2.2.1 (Int.toNat (Go.IntKind.wrap .i64 (Int.tdiv x.2.1 x.1.1))) (0 : Int)), (Int.tmod x.2.1 x.1.1)), (true, ())))))
                  else
                    (some (((0 : Int), (0 : Int)), (false, ())))))))
          else
            (gd ((0 : Int) ≤ x.2.1) (gd (x.2.1 < (((List.length x.1.2.2.2.2.1) : Nat) : Int)) (bif (List.getD x.1.2.2.2.2.1 (Int.toNat x.2.1) false) then
                  (gd ((0 : Int) ≤ (Go.IntKind.wrap .i64 (Int.tdiv x.2.1 x.1.1))) (gd ((Go.IntKind.wrap .i64 (Int.tdiv x.2.1 x.1.1)) < (((List.length x.1.2.2.2.1) : Nat) : Int)) (some (((List.getD x.1.2.2.2.1 (Int.toNat (Go.IntKind.wrap .i64 (Int.tdiv x.2.1 x.1.1))) (0 : Int)), (Int.tmod x.2.1 x.1.1)), (true, ())))))
                else
                  (some (((0 : Int), (0 : Int)), (false, ())))))))
        else
          (gd ((0 : Int) ≤ x.2.1) (gd (x.2.1 < (((List.length x.1.2.2.2.2.1) : Nat) : Int)) (bif (List.getD x.1.2.2.2.2.1 (Int.toNat x.2.1) false) then
                (gd ((0 : Int) ≤ (Go.IntKind.wrap .i64 (Int.tdiv x.2.1 x.1.1))) (gd ((Go.IntKind.wrap .i64 (Int.tdiv x.2.1 x.1.1)) < (((List.length x.1.2.2.2.1) : Nat) : Int)) (some (((List.getD x.1.2.2.2.1 (Int.toNat (Go.IntKind.wrap .i64 (Int.tdiv x.2.1 x.1.1))) (0 : Int)), (Int.tmod x.2.1 x.1.1)), (true, ())))))
              else
                (some (((0 : Int), (0 : Int)), (false, ()))))))))) (fun y2 =>
    some (y2.2, (y2.1, ()))) y1

noncomputable def r62 : PDen [(true, (.pair (.int .i64) (.pair (.int .i64) (.pair (.int .i64) (.pair (.sl (.int .i64)) (.pair (.sl .bool) (.pair (.pair (.int .i64) (.pair (.int .i64) (.int .i64))) (.sl (.pair (.int .i64) (.sl (.int .i64))))))))))), (false, (.int .i64))] → Option (PDen [(true, (.pair (.int .i64) (.int .i64))), (false, .bool)]) := fun x => afun Try.prog (envOf [(59, ⟨[(false, (.sl (.int .i64))), (false, (.int .i64))], [(false, (.int .i64))], false, m59⟩)] [] [] []) ⟨[(0, ⟨[.slot 14 (.d false (.int .i64) true), .cell 1 0 (.d false (.int .i64) true), .cell 1 1 (.d false (.int .i64) true)], [], [(some 0, [.cell 1 0 (.d false (.int .i64) true), .cell 1 1 (.d false (.int .i64) true)]), (none, [.slot 5 (.d false .bool true), .cell 1 0 (.d false (.int .i64) true), .cell 1 1 (.d false (.int .i64) true)])], none⟩)], []⟩ Try.f62 [(true, (.pair (.int .i64) (.pair (.int .i64) (.pair (.int .i64) (.pair (.sl (.int .i64)) (.pair (.sl .bool) (.pair (.pair (.int .i64) (.pair (.int .i64) (.int .i64))) (.sl (.pair (.int .i64) (.sl (.int .i64))))))))))), (false, (.int .i64))] [(true, (.pair (.int .i64) (.int .i64))), (false, .bool)] false x
theorem r62_eq : r62 = m62 := by kernel_rfl

theorem c62 : CS.Sound Try.prog 62 ⟨[(true, (.pair (.int .i64) (.pair (.int .i64) (.pair (.int .i64) (.pair (.sl (.int .i64)) (.pair (.sl .bool) (.pair (.pair (.int .i64) (.pair (.int .i64) (.int .i64))) (.sl (.pair (.int .i64) (.sl (.int .i64))))))))))), (false, (.int .i64))], [(true, (.pair (.int .i64) (.int .i64))), (false, .bool)], false, m62⟩ := afun_sound' (envOf_sound (CSs.cons c59 (CSs.nil)) (HDs.nil) (IDs.nil)) rfl Try.follows (f := 62) (fn := Try.f62) Try.func62 (by kernel_rfl) (by kernel_rfl) r62_eq
end Go.Proofs.Ytefekolpfklhdaa
end

section
/- What function 31 (slipway/plan.Where) computes, by the kernel. -/
open Go Go.Proofs.AM
namespace Go.Proofs.Ytefekolpfklhdaa

noncomputable def m31 (x : (Int × (Int × (Int × ((List Int) × ((List Bool) × ((Int × (Int × Int)) × (List (Int × (List Int))))))))) × Int × Unit) : Option ((Int × Int) × (Bool × Unit)) :=
  Option.bind (m60 (x.1, ())) fun (y1 : ((Int × (Int × (Int × ((List Int) × ((List Bool) × ((Int × (Int × Int)) × (List (Int × (List Int))))))))) × Unit)) =>
  Option.bind (m61 (x.2.1, ((0 : Int), ((Go.IntKind.wrap .i64 ((((List.length y1.1.2.2.2.2.1) : Nat) : Int) - (1 : Int))), ())))) fun (y2 : (Bool × Unit)) =>
  bif (!y2.1) then
    (some (((0 : Int), (0 : Int)), (false, ())))
  else
    (Option.bind (m62 (y1.1, (x.2.1, ()))) fun (y3 : ((Int × Int) × (Bool × Unit))) =>
    some (y3.1, (y3.2.1, ())))

noncomputable def r31 : PDen [(true, (.pair (.int .i64) (.pair (.int .i64) (.pair (.int .i64) (.pair (.sl (.int .i64)) (.pair (.sl .bool) (.pair (.pair (.int .i64) (.pair (.int .i64) (.int .i64))) (.sl (.pair (.int .i64) (.sl (.int .i64))))))))))), (false, (.int .i64))] → Option (PDen [(true, (.pair (.int .i64) (.int .i64))), (false, .bool)]) := fun x => afun Try.prog (envOf [(60, ⟨[(true, (.pair (.int .i64) (.pair (.int .i64) (.pair (.int .i64) (.pair (.sl (.int .i64)) (.pair (.sl .bool) (.pair (.pair (.int .i64) (.pair (.int .i64) (.int .i64))) (.sl (.pair (.int .i64) (.sl (.int .i64)))))))))))], [(true, (.pair (.int .i64) (.pair (.int .i64) (.pair (.int .i64) (.pair (.sl (.int .i64)) (.pair (.sl .bool) (.pair (.pair (.int .i64) (.pair (.int .i64) (.int .i64))) (.sl (.pair (.int .i64) (.sl (.int .i64)))))))))))], true, m60⟩), (61, ⟨[(false, (.int .i64)), (false, (.int .i64)), (false, (.int .i64))], [(false, .bool)], false, m61⟩), (62, ⟨[(true, (.pair (.int .i64) (.pair (.int .i64) (.pair (.int .i64) (.pair (.sl (.int .i64)) (.pair (.sl .bool) (.pair (.pair (.int .i64) (.pair (.int .i64) (.int .i64))) (.sl (.pair (.int .i64) (.sl (.int .i64))))))))))), (false, (.int .i64))], [(true, (.pair (.int .i64) (.int .i64))), (false, .bool)], false, m62⟩)] [] [] []) ⟨[], []⟩ Try.f31 [(true, (.pair (.int .i64) (.pair (.int .i64) (.pair (.int .i64) (.pair (.sl (.int .i64)) (.pair (.sl .bool) (.pair (.pair (.int .i64) (.pair (.int .i64) (.int .i64))) (.sl (.pair (.int .i64) (.sl (.int .i64))))))))))), (false, (.int .i64))] [(true, (.pair (.int .i64) (.int .i64))), (false, .bool)] false x
theorem r31_eq : r31 = m31 := by kernel_rfl

theorem c31 : CS.Sound Try.prog 31 ⟨[(true, (.pair (.int .i64) (.pair (.int .i64) (.pair (.int .i64) (.pair (.sl (.int .i64)) (.pair (.sl .bool) (.pair (.pair (.int .i64) (.pair (.int .i64) (.int .i64))) (.sl (.pair (.int .i64) (.sl (.int .i64))))))))))), (false, (.int .i64))], [(true, (.pair (.int .i64) (.int .i64))), (false, .bool)], false, m31⟩ := afun_sound' (envOf_sound (CSs.cons c60 (CSs.cons c61 (CSs.cons c62 (CSs.nil)))) (HDs.nil) (IDs.nil)) rfl Try.follows (f := 31) (fn := Try.f31) Try.func31 (by kernel_rfl) (by kernel_rfl) r31_eq
end Go.Proofs.Ytefekolpfklhdaa
end

section
/- What function 50 (slipway/scan.isPlace) computes, by the kernel. -/
open Go Go.Proofs.AM
namespace Go.Proofs.Ytefekolpfklhdaa

noncomputable def m50 (x : (Int × Int) × Unit) : Option (Bool × Unit) :=
  Option.bind (m48 (x.1.1, ((0 : Int), ((255 : Int), ())))) fun (y1 : (Bool × Unit)) =>
  bif y1.1 then
    (Option.bind (m48 (x.1.2, ((0 : Int), ((31 : Int), ())))) fun (y2 : (Bool × Unit)) =>
    some (y2.1, ()))
  else
    (some (false, ()))

noncomputable def r50 : PDen [(true, (.pair (.int .i64) (.int .i64)))] → Option (PDen [(false, .bool)]) := fun x => afun Try.prog (envOf [(48, ⟨[(false, (.int .i64)), (false, (.int .i64)), (false, (.int .i64))], [(false, .bool)], false, m48⟩)] [] [] []) ⟨[], []⟩ Try.f50 [(true, (.pair (.int .i64) (.int .i64)))] [(false, .bool)] false x
theorem r50_eq : r50 = m50 := by kernel_rfl

theorem c50 : CS.Sound Try.prog 50 ⟨[(true, (.pair (.int .i64) (.int .i64)))], [(false, .bool)], false, m50⟩ := afun_sound' (envOf_sound (CSs.cons c48 (CSs.nil)) (HDs.nil) (IDs.nil)) rfl Try.follows (f := 50) (fn := Try.f50) Try.func50 (by kernel_rfl) (by kernel_rfl) r50_eq
end Go.Proofs.Ytefekolpfklhdaa
end

section
/- What function 32 (slipway/scan.Settled) computes, by the kernel. -/
open Go Go.Proofs.AM
namespace Go.Proofs.Ytefekolpfklhdaa

noncomputable def m32 (x : Int × (List (Int × Int)) × Int × Unit) : Option (Int × (Bool × Unit)) :=
  Option.bind (m48 (x.1, ((4 : Int), ((32 : Int), ())))) fun (y1 : (Bool × Unit)) =>
  bif (!y1.1) then
    (some ((0 : Int), (false, ())))
  else
    (if x.1 = (0 : Int) then
      (none)
    else
      (bif (!(decide ((Int.tmod (((List.length x.2.1) : Nat) : Int) x.1) = (0 : Int)))) then
        (some ((0 : Int), (false, ())))
      else
        (if x.1 = (0 : Int) then
          (none)
        else
          (Option.bind (m48 (x.2.2.1, ((0 : Int), ((Go.IntKind.wrap .i64 ((Go.IntKind.wrap .i64 (Int.tdiv (((List.length x.2.1) : Nat) : Int) x.1)) - (1 : Int))), ())))) fun (y2 : (Bool × Unit)) =>
          bif (!y2.1) then
            (some ((0 : Int), (false, ())))
          else
            (gd ((0 : Int) ≤ (Go.IntKind.wrap .i64 (x.2.2.1 * x.1))) (gd ((Go.IntKind.wrap .i64 (x.2.2.1 * x.1)) ≤ (Go.IntKind.wrap .i64 ((Go.IntKind.wrap .i64 (x.2.2.1 + (1 : Int))) * x.1))) (gd ((Go.IntKind.wrap .i64 ((Go.IntKind.wrap .i64 (x.2.2.1 + (1 : Int))) * x.1)) ≤ (((List.length x.2.1) : Nat) : Int)) (Option.bind (loopM (X := (Int × (Bool × Int))) (E := ((Int × Bool) ⊕ (Int × Bool))) (fun (x3 : (Int × (Bool × Int))) =>
                      bif (decide (x3.2.2 < (((List.length (List.take ((Int.toNat (Go.IntKind.wrap .i64 ((Go.IntKind.wrap .i64 (x.2.2.1 + (1 : Int))) * x.1))) - (Int.toNat (Go.IntKind.wrap .i64 (x.2.2.1 * x.1)))) (List.drop (Int.toNat (Go.IntKind.wrap .i64 (x.2.2.1 * x.1))) x.2.1))) : Nat) : Int))) then
                        (gd ((0 : Int) ≤ x3.2.2) (gd (x3.2.2 < (((List.length (List.take ((Int.toNat (Go.IntKind.wrap .i64 ((Go.IntKind.wrap .i64 (x.2.2.1 + (1 : Int))) * x.1))) - (Int.toNat (Go.IntKind.wrap .i64 (x.2.2.1 * x.1)))) (List.drop (Int.toNat (Go.IntKind.wrap .i64 (x.2.2.1 * x.1))) x.2.1))) : Nat) : Int)) (Option.bind (m50 ((List.getD (List.take ((Int.toNat (Go.IntKind.wrap .i64 ((Go.IntKind.wrap .i64 (x.2.2.1 + (1 : Int))) * x.1))) - (Int.toNat (Go.IntKind.wrap .i64 (x.2.2.1 * x.1)))) (List.drop (Int.toNat (Go.IntKind.wrap .i64 (x.2.2.1 * x.1))) x.2.1)) (Int.toNat x3.2.2) ((0 : Int), (0 : Int))), ())) fun (y4 : (Bool × Unit)) =>
                            bif (!y4.1) then
                              (some (Sum.inl (x3.1, (x3.2.1, (Go.IntKind.wrap .i64 (x3.2.2 + (1 : Int)))))))
                            else
                              (bif x3.2.1 then
                                (bif (!((decide ((List.getD (List.take ((Int.toNat (Go.IntKind.wrap .i64 ((Go.IntKind.wrap .i64 (x.2.2.1 + (1 : Int))) * x.1))) - (Int.toNat (Go.IntKind.wrap .i64 (x.2.2.1 * x.1)))) (List.drop (Int.toNat (Go.IntKind.wrap .i64 (x.2.2.1 * x.1))) x.2.1)) (Int.toNat x3.2.2) ((0 : Int), (0 : Int))).1 = x3.1)) && (decide ((List.getD (List.take ((Int.toNat (Go.IntKind.wrap .i64 ((Go.IntKind.wrap .i64 (x.2.2.1 + (1 : Int))) * x.1))) - (Int.toNat (Go.IntKind.wrap .i64 (x.2.2.1 * x.1)))) (List.drop (Int.toNat (Go.IntKind.wrap .i64 (x.2.2.1 * x.1))) x.2.1)) (Int.toNat x3.2.2) ((0 : Int), (0 : Int))).2 = x3.2.2)))) then
                                  (some (Sum.inr (Sum.inr ((0 : Int), false))))
                                else
                                  (bif (!(decide ((List.getD (List.take ((Int.toNat (Go.IntKind.wrap .i64 ((Go.IntKind.wrap .i64 (x.2.2.1 + (1 : Int))) * x.1))) - (Int.toNat (Go.IntKind.wrap .i64 (x.2.2.1 * x.1)))) (List.drop (Int.toNat (Go.IntKind.wrap .i64 (x.2.2.1 * x.1))) x.2.1)) (Int.toNat x3.2.2) ((0 : Int), (0 : Int))).2 = x3.2.2))) then
                                    (some (Sum.inr (Sum.inr ((0 : Int), false))))
                                  else
                                    (some (Sum.inl ((List.getD (List.take ((Int.toNat (Go.IntKind.wrap .i64 ((Go.IntKind.wrap .i64 (x.2.2.1 + (1 : Int))) * x.1))) - (Int.toNat (Go.IntKind.wrap .i64 (x.2.2.1 * x.1)))) (List.drop (Int.toNat (Go.IntKind.wrap .i64 (x.2.2.1 * x.1))) x.2.1)) (Int.toNat x3.2.2) ((0 : Int), (0 : Int))).1, (true, (Go.IntKind.wrap .i64 (x3.2.2 + (1 : Int)))))))))
                              else
                                (bif (!(decide ((List.getD (List.take ((Int.toNat (Go.IntKind.wrap .i64 ((Go.IntKind.wrap .i64 (x.2.2.1 + (1 : Int))) * x.1))) - (Int.toNat (Go.IntKind.wrap .i64 (x.2.2.1 * x.1)))) (List.drop (Int.toNat (Go.IntKind.wrap .i64 (x.2.2.1 * x.1))) x.2.1)) (Int.toNat x3.2.2) ((0 : Int), (0 : Int))).2 = x3.2.2))) then
                                  (some (Sum.inr (Sum.inr ((0 : Int), false))))
                                else
                                  (some (Sum.inl ((List.getD (List.take ((Int.toNat (Go.IntKind.wrap .i64 ((Go.IntKind.wrap .i64 (x.2.2.1 + (1 : Int))) * x.1))) - (Int.toNat (Go.IntKind.wrap .i64 (x.2.2.1 * x.1)))) (List.drop (Int.toNat (Go.IntKind.wrap .i64 (x.2.2.1 * x.1))) x.2.1)) (Int.toNat x3.2.2) ((0 : Int), (0 : Int))).1, (true, (Go.IntKind.wrap .i64 (x3.2.2 + (1 : Int))))))))))))
                      else
                        (some (Sum.inr (Sum.inl (x3.1, x3.2.1))))) ((0 : Int), (false, (0 : Int)))) fun (y3 : ((Int × Bool) ⊕ (Int × Bool))) =>
                  Sum.elim (fun y4 =>
                    bif (!y4.2) then
                      (some ((0 : Int), (false, ())))
                    else
                      (Option.bind (loopM (X := Int) (E := (Unit ⊕ (Int × Bool))) (fun (x5 : Int) =>
                          bif (decide (x5 < (((List.length x.2.1) : Nat) : Int))) then
                            (gd ((0 : Int) ≤ x5) (gd (x5 < (((List.length x.2.1) : Nat) : Int)) (if x.1 = (0 : Int) then
                                  (none)
                                else
                                  (bif (!(decide ((Go.IntKind.wrap .i64 (Int.tdiv x5 x.1)) = x.2.2.1))) then
                                    (Option.bind (m50 ((List.getD x.2.1 (Int.toNat x5) ((0 : Int), (0 : Int))), ())) fun (y6 : (Bool × Unit)) =>
                                    bif y6.1 then
                                      (bif (decide ((List.getD x.2.1 (Int.toNat x5) ((0 : Int), (0 : Int))).1 = y4.1)) then
                                        (some (Sum.inr (Sum.inr ((0 : Int), false))))
                                      else
                                        (some (Sum.inl (Go.IntKind.wrap .i64 (x5 + (1 : Int))))))
                                    else
                                      (some (Sum.inl (Go.IntKind.wrap .i64 (x5 + (1 : Int))))))
                                  else
                                    (some (Sum.inl (Go.IntKind.wrap .i64 (x5 + (1 : Int)))))))))
                          else
                            (some (Sum.inr (Sum.inl ())))) (0 : Int)) fun (y5 : (Unit ⊕ (Int × Bool))) =>
                      Sum.elim (fun y6 =>
                        some (y4.1, (true, ()))) (fun y6 =>
                        some (y6.1, (y6.2, ()))) y5)) (fun y4 =>
                    some (y4.1, (y4.2, ()))) y3))))))))

noncomputable def r32 : PDen [(false, (.int .i64)), (false, (.sl (.pair (.int .i64) (.int .i64)))), (false, (.int .i64))] → Option (PDen [(false, (.int .i64)), (false, .bool)]) := fun x => afun Try.prog (envOf [(48, ⟨[(false, (.int .i64)), (false, (.int .i64)), (false, (.int .i64))], [(false, .bool)], false, m48⟩), (50, ⟨[(true, (.pair (.int .i64) (.int .i64)))], [(false, .bool)], false, m50⟩)] [] [] []) ⟨[(0, ⟨[.slot 8 (.d false (.int .i64) true), .slot 9 (.d false .bool true), .slot 44 (.d false (.int .i64) true)], [], [(some 0, [.slot 8 (.d false (.int .i64) true), .slot 9 (.d false .bool true)]), (none, [.slot 6 (.d false (.int .i64) true), .slot 7 (.d false .bool true)])], none⟩), (3, ⟨[.slot 73 (.d false (.int .i64) true)], [], [(some 3, []), (none, [.slot 6 (.d false (.int .i64) true), .slot 7 (.d false .bool true)])], none⟩)], []⟩ Try.f32 [(false, (.int .i64)), (false, (.sl (.pair (.int .i64) (.int .i64)))), (false, (.int .i64))] [(false, (.int .i64)), (false, .bool)] false x
theorem r32_eq : r32 = m32 := by kernel_rfl

theorem c32 : CS.Sound Try.prog 32 ⟨[(false, (.int .i64)), (false, (.sl (.pair (.int .i64) (.int .i64)))), (false, (.int .i64))], [(false, (.int .i64)), (false, .bool)], false, m32⟩ := afun_sound' (envOf_sound (CSs.cons c48 (CSs.cons c50 (CSs.nil))) (HDs.nil) (IDs.nil)) rfl Try.follows (f := 32) (fn := Try.f32) Try.func32 (by kernel_rfl) (by kernel_rfl) r32_eq
end Go.Proofs.Ytefekolpfklhdaa
end

section
/- What function 25 (slipway/scan.Table) computes, by the kernel. -/
open Go Go.Proofs.AM
namespace Go.Proofs.Ytefekolpfklhdaa

noncomputable def m25 (x : Int × Int × Int × (List (Int × Int)) × Unit) : Option ((Int × (Int × (Int × ((List Int) × ((List Bool) × ((Int × (Int × Int)) × (List (Int × (List Int))))))))) × ((List Int) × (Int × Unit))) :=
  Option.bind (m38 (x.1, (x.2.1, (x.2.2.1, ())))) fun (y1 : ((Int × (Int × (Int × ((List Int) × ((List Bool) × ((Int × (Int × Int)) × (List (Int × (List Int))))))))) × (Int × Unit))) =>
  bif (!(decide (y1.2.1 = (0 : Int)))) then
    (some (((0 : Int), ((0 : Int), ((0 : Int), (([] : List Int), (([] : List Bool), (((0 : Int), ((0 : Int), (0 : Int))), ([] : List (Int × (List Int))))))))), (([] : List Int), (y1.2.1, ()))))
  else
    (bif (!(decide ((((List.length x.2.2.2.1) : Nat) : Int) = (Go.IntKind.wrap .i64 (x.2.1 * x.1))))) then
      (some (((0 : Int), ((0 : Int), ((0 : Int), (([] : List Int), (([] : List Bool), (((0 : Int), ((0 : Int), (0 : Int))), ([] : List (Int × (List Int))))))))), (([] : List Int), ((1 : Int), ()))))
    else
      (Option.bind (loopM (X := ((List Int) × (Int × ((List Int) × (List Bool))))) (E := ((List Int) × ((List Int) × (List Bool)))) (fun (x2 : ((List Int) × (Int × ((List Int) × (List Bool))))) =>
          bif (decide (x2.2.1 < x.2.1)) then
            (gd ((0 : Int) ≤ (Go.IntKind.wrap .i64 (x2.2.1 * x.1))) (gd ((Go.IntKind.wrap .i64 (x2.2.1 * x.1)) ≤ (Go.IntKind.wrap .i64 ((Go.IntKind.wrap .i64 (x2.2.1 + (1 : Int))) * x.1))) (gd ((Go.IntKind.wrap .i64 ((Go.IntKind.wrap .i64 (x2.2.1 + (1 : Int))) * x.1)) ≤ (((List.length x.2.2.2.1) : Nat) : Int)) (Option.bind (m32 (x.1, (x.2.2.2.1, (x2.2.1, ())))) fun (y3 : (Int × (Bool × Unit))) =>
                  bif y3.2.1 then
                    (gd ((0 : Int) ≤ x2.2.1) (gd (x2.2.1 < (((List.length x2.2.2.1) : Nat) : Int)) (gd ((Int.toNat x2.2.1) < (List.length x2.2.2.1)) (Option.bind (loopM (X := (Int × (List Bool))) (E := (List Bool)) (fun (x4 : (Int × (List Bool))) =>
                              bif (decide (x4.1 < (((List.length (List.take ((Int.toNat (Go.IntKind.wrap .i64 ((Go.IntKind.wrap .i64 (x2.2.1 + (1 : Int))) * x.1))) - (Int.toNat (Go.IntKind.wrap .i64 (x2.2.1 * x.1)))) (List.drop (Int.toNat (Go.IntKind.wrap .i64 (x2.2.1 * x.1))) x.2.2.2.1))) : Nat) : Int))) then
                                (gd ((0 : Int) ≤ x4.1) (gd (x4.1 < (((List.length (List.take ((Int.toNat (Go.IntKind.wrap .i64 ((Go.IntKind.wrap .i64 (x2.2.1 + (1 : Int))) * x.1))) - (Int.toNat (Go.IntKind.wrap .i64 (x2.2.1 * x.1)))) (List.drop (Int.toNat (Go.IntKind.wrap .i64 (x2.2.1 * x.1))) x.2.2.2.1))) : Nat) : Int)) (Option.bind (m50 ((List.getD (List.take ((Int.toNat (Go.IntKind.wrap .i64 ((Go.IntKind.wrap .i64 (x2.2.1 + (1 : Int))) * x.1))) - (Int.toNat (Go.IntKind.wrap .i64 (x2.2.1 * x.1)))) (List.drop (Int.toNat (Go.IntKind.wrap .i64 (x2.2.1 * x.1))) x.2.2.2.1)) (Int.toNat x4.1) ((0 : Int), (0 : Int))), ())) fun (y5 : (Bool × Unit)) =>
                                    gd ((0 : Int) ≤ (Go.IntKind.wrap .i64 ((Go.IntKind.wrap .i64 (x2.2.1 * x.1)) + x4.1))) (gd ((Go.IntKind.wrap .i64 ((Go.IntKind.wrap .i64 (x2.2.1 * x.1)) + x4.1)) < (((List.length x4.2) : Nat) : Int)) (gd ((Int.toNat (Go.IntKind.wrap .i64 ((Go.IntKind.wrap .i64 (x2.2.1 * x.1)) + x4.1))) < (List.length x4.2)) (some (Sum.inl ((Go.IntKind.wrap .i64 (x4.1 + (1 : Int))), (List.set x4.2 (Int.toNat (Go.IntKind.wrap .i64 ((Go.IntKind.wrap .i64 (x2.2.1 * x.1)) + x4.1))) y5.1)))))))))
                              else
                                (some (Sum.inr x4.2))) ((0 : Int), x2.2.2.2)) fun (y4 : (List Bool)) =>
                          some (Sum.inl (x2.1, ((Go.IntKind.wrap .i64 (x2.2.1 + (1 : Int))), ((List.set x2.2.2.1 (Int.toNat x2.2.1) y3.1), y4))))))))
                  else
                    (Option.bind (loopM (X := Int) (E := (Unit ⊕ Int)) (fun (x4 : Int) =>
                        bif (decide (x4 < (((List.length (List.take ((Int.toNat (Go.IntKind.wrap .i64 ((Go.IntKind.wrap .i64 (x2.2.1 + (1 : Int))) * x.1))) - (Int.toNat (Go.IntKind.wrap .i64 (x2.2.1 * x.1)))) (List.drop (Int.toNat (Go.IntKind.wrap .i64 (x2.2.1 * x.1))) x.2.2.2.1))) : Nat) : Int))) then
                          (gd ((0 : Int) ≤ x4) (gd (x4 < (((List.length (List.take ((Int.toNat (Go.IntKind.wrap .i64 ((Go.IntKind.wrap .i64 (x2.2.1 + (1 : Int))) * x.1))) - (Int.toNat (Go.IntKind.wrap .i64 (x2.2.1 * x.1)))) (List.drop (Int.toNat (Go.IntKind.wrap .i64 (x2.2.1 * x.1))) x.2.2.2.1))) : Nat) : Int)) (Option.bind (m50 ((List.getD (List.take ((Int.toNat (Go.IntKind.wrap .i64 ((Go.IntKind.wrap .i64 (x2.2.1 + (1 : Int))) * x.1))) - (Int.toNat (Go.IntKind.wrap .i64 (x2.2.1 * x.1)))) (List.drop (Int.toNat (Go.IntKind.wrap .i64 (x2.2.1 * x.1))) x.2.2.2.1)) (Int.toNat x4) ((0 : Int), (0 : Int))), ())) fun (y5 : (Bool × Unit)) =>
                              bif y5.1 then
                                (some (Sum.inr (Sum.inr x4)))
                              else
                                (some (Sum.inl (Go.IntKind.wrap .i64 (x4 + (1 : Int))))))))
                        else
                          (some (Sum.inr (Sum.inl ())))) (0 : Int)) fun (y4 : (Unit ⊕ Int)) =>
                    Sum.elim (fun y5 =>
                      bif (decide ((-1 : Int) ≥ (0 : Int))) then
                        (gd ((((List.length x2.1) + (List.length (x2.2.1 :: ([] : List Int)))) * 8) ≤ 140737488355328) (gd (((List.length x2.1) + (List.length (x2.2.1 :: ([] : List Int)))) ≤ 140737488355328) (some (Sum.inl ((x2.1 ++ (x2.2.1 :: ([] : List Int))), ((Go.IntKind.wrap .i64 (x2.2.1 + (1 : Int))), (x2.2.2.1, x2.2.2.2)))))))
                      else
                        (some (Sum.inl (x2.1, ((Go.IntKind.wrap .i64 (x2.2.1 + (1 : Int))), (x2.2.2.1, x2.2.2.2)))))) (fun y5 =>
                      bif (decide (y5 ≥ (0 : Int))) then
                        (gd ((((List.length x2.1) + (List.length (x2.2.1 :: ([] : List Int)))) * 8) ≤ 140737488355328) (gd (((List.length x2.1) + (List.length (x2.2.1 :: ([] : List Int)))) ≤ 140737488355328) (some (Sum.inl ((x2.1 ++ (x2.2.1 :: ([] : List Int))), ((Go.IntKind.wrap .i64 (x2.2.1 + (1 : Int))), (x2.2.2.1, x2.2.2.2)))))))
                      else
                        (some (Sum.inl (x2.1, ((Go.IntKind.wrap .i64 (x2.2.1 + (1 : Int))), (x2.2.2.1, x2.2.2.2)))))) y4)))))
          else
            (some (Sum.inr (x2.1, (x2.2.2.1, x2.2.2.2))))) (([] : List Int), ((0 : Int), (y1.1.2.2.2.1, y1.1.2.2.2.2.1)))) fun (y2 : ((List Int) × ((List Int) × (List Bool)))) =>
      some ((y1.1.1, (y1.1.2.1, (y1.1.2.2.1, (y2.2.1, (y2.2.2, y1.1.2.2.2.2.2))))), (y2.1, ((0 : Int), ())))))

noncomputable def i25_72 : ID := aInl Try.prog (envOf [(50, ⟨[(true, (.pair (.int .i64) (.int .i64)))], [(false, .bool)], false, m50⟩)] [] [] []) ⟨[(6000, ⟨[.slot 8 (.d false (.int .i64) true)], [], [(some 0, []), (none, [.slot 4 (.d false (.int .i64) true)])], none⟩)], []⟩ Try.f72
noncomputable def i25_54 : ID := aInl Try.prog (envOf [] [] [] [(72, i25_72)]) ⟨[], []⟩ Try.f54
noncomputable def r25 : PDen [(false, (.int .i64)), (false, (.int .i64)), (false, (.int .i64)), (false, (.sl (.pair (.int .i64) (.int .i64))))] → Option (PDen [(true, (.pair (.int .i64) (.pair (.int .i64) (.pair (.int .i64) (.pair (.sl (.int .i64)) (.pair (.sl .bool) (.pair (.pair (.int .i64) (.pair (.int .i64) (.int .i64))) (.sl (.pair (.int .i64) (.sl (.int .i64))))))))))), (false, (.sl (.int .i64))), (false, (.int .i64))]) := fun x => afunM Try.prog (envOf [(32, ⟨[(false, (.int .i64)), (false, (.sl (.pair (.int .i64) (.int .i64)))), (false, (.int .i64))], [(false, (.int .i64)), (false, .bool)], false, m32⟩), (50, ⟨[(true, (.pair (.int .i64) (.int .i64)))], [(false, .bool)], false, m50⟩)] [(38, OM.hd ⟨[(false, (.int .i64)), (false, (.int .i64)), (false, (.int .i64))], [(true, (.pair (.int .i64) (.pair (.int .i64) (.pair (.int .i64) (.pair (.sl (.int .i64)) (.pair (.sl .bool) (.pair (.pair (.int .i64) (.pair (.int .i64) (.int .i64))) (.sl (.pair (.int .i64) (.sl (.int .i64))))))))))), (false, (.int .i64))], [(.p .d (.p .d (.p .d (.p (.s 3) (.p (.s 4) .d))))), .d], false, m38⟩)] [] [(54, i25_54)]) ⟨[(0, ⟨[.slot 13 (.v 3 (.int .i64) true), .slot 39 (.d false (.int .i64) true), .vec 1 3 (.int .i64) true, .vec 2 4 .bool true], [], [(some 0, [.slot 13 (.v 3 (.int .i64) true), .vec 1 3 (.int .i64) true, .vec 2 4 .bool true])], none⟩), (3, ⟨[.slot 67 (.d false (.int .i64) true), .vec 2 4 .bool true], [], [(some 3, [.vec 2 4 .bool true])], none⟩)], []⟩ Try.f25 [(false, (.int .i64)), (false, (.int .i64)), (false, (.int .i64)), (false, (.sl (.pair (.int .i64) (.int .i64))))] [(true, (.pair (.int .i64) (.pair (.int .i64) (.pair (.int .i64) (.pair (.sl (.int .i64)) (.pair (.sl .bool) (.pair (.pair (.int .i64) (.pair (.int .i64) (.int .i64))) (.sl (.pair (.int .i64) (.sl (.int .i64))))))))))), (false, (.sl (.int .i64))), (false, (.int .i64))] [(.p .d (.p .d (.p .d (.p (.s 3) (.p (.s 4) .d))))), (.s 3), .d] false x
theorem r25_eq : r25 = m25 := by kernel_rfl

theorem i25_72_sound : i25_72.Sound Try.prog 72 := aInl_sound' (envOf_sound (CSs.cons c50 (CSs.nil)) (HDs.nil) (IDs.nil)) Try.follows (f := 72) (fn := Try.f72) Try.func72 (by kernel_rfl) (by kernel_rfl)
theorem i25_54_sound : i25_54.Sound Try.prog 54 := aInl_sound' (envOf_sound (CSs.nil) (HDs.nil) (IDs.cons i25_72_sound (IDs.nil))) Try.follows (f := 54) (fn := Try.f54) Try.func54 (by kernel_rfl) (by kernel_rfl)
theorem c25 : OM.Sound Try.prog 25 ⟨[(false, (.int .i64)), (false, (.int .i64)), (false, (.int .i64)), (false, (.sl (.pair (.int .i64) (.int .i64))))], [(true, (.pair (.int .i64) (.pair (.int .i64) (.pair (.int .i64) (.pair (.sl (.int .i64)) (.pair (.sl .bool) (.pair (.pair (.int .i64) (.pair (.int .i64) (.int .i64))) (.sl (.pair (.int .i64) (.sl (.int .i64))))))))))), (false, (.sl (.int .i64))), (false, (.int .i64))], [(.p .d (.p .d (.p .d (.p (.s 3) (.p (.s 4) .d))))), (.s 3), .d], false, m25⟩ := afunM_sound' (envOf_sound (CSs.cons c32 (CSs.cons c50 (CSs.nil))) (HDs.cons (OM.Sound.hd c38) (HDs.nil)) (IDs.cons i25_54_sound (IDs.nil))) rfl Try.follows (f := 25) (fn := Try.f25) Try.func25 (by kernel_rfl) (by kernel_rfl) r25_eq
end Go.Proofs.Ytefekolpfklhdaa
end

section
/- What function 9 (slipway/slipwaylaw07.ScanStays) computes, by the kernel. -/
open Go Go.Proofs.AM
namespace Go.Proofs.Ytefekolpfklhdaa

noncomputable def m9 (x : (Int × (Int × (Int × ((List ((Int × Int) × (Int × (Int × (Int × Int))))) × (List (Int × Int)))))) × Unit) : Option (Bool × Unit) :=
  Option.bind (m11 ()) fun (y1 : (Bool × Unit)) =>
  bif (!y1.1) then
    (some (false, ()))
  else
    (Option.bind (m12 (x.1, ())) fun (y2 : (Bool × Unit)) =>
    bif (!y2.1) then
      (some (true, ()))
    else
      (Option.bind (m14 (x.1.1, (x.1.2.1, (x.1.2.2.2.1, ())))) fun (y3 : ((List (Int × Int)) × Unit)) =>
      Option.bind (m25 (x.1.1, (x.1.2.1, (x.1.2.2.1, (y3.1, ()))))) fun (y4 : ((Int × (Int × (Int × ((List Int) × ((List Bool) × ((Int × (Int × Int)) × (List (Int × (List Int))))))))) × ((List Int) × (Int × Unit)))) =>
      bif (!(decide (y4.2.2.1 = (0 : Int)))) then
        (some (true, ()))
      else
        (Option.bind (m23 (y4.1, ())) fun (y5 : (Int × Unit)) =>
        bif (!(decide (y5.1 = (0 : Int)))) then
          (some (false, ()))
        else
          (Option.bind (loopM (X := Int) (E := (Unit ⊕ Bool)) (fun (x6 : Int) =>
              bif (decide (x6 < (((List.length y3.1) : Nat) : Int))) then
                (gd ((0 : Int) ≤ x6) (gd (x6 < (((List.length y3.1) : Nat) : Int)) (if x.1.1 = (0 : Int) then
                      (none)
                    else
                      (Option.bind (m30 (y4.2.1, ((Go.IntKind.wrap .i64 (Int.tdiv x6 x.1.1)), ()))) fun (y7 : (Bool × Unit)) =>
                      bif y7.1 then
                        (some (Sum.inl (Go.IntKind.wrap .i64 (x6 + (1 : Int)))))
                      else
                        (Option.bind (m31 (y4.1, (x6, ()))) fun (y8 : ((Int × Int) × (Bool × Unit))) =>
                        bif (!(bif y8.2.1 then (decide ((List.getD y3.1 (Int.toNat x6) ((0 : Int), (0 : Int))).1 ≥ (0 : Int))) else (!(decide ((List.getD y3.1 (Int.toNat x6) ((0 : Int), (0 : Int))).1 ≥ (0 : Int)))))) then
                          (some (Sum.inr (Sum.inr false)))
                        else
                          (bif y8.2.1 then
                            (bif (!((decide (y8.1.1 = (List.getD y3.1 (Int.toNat x6) ((0 : Int), (0 : Int))).1)) && (decide (y8.1.2 = (List.getD y3.1 (Int.toNat x6) ((0 : Int), (0 : Int))).2)))) then
                              (some (Sum.inr (Sum.inr false)))
                            else
                              (some (Sum.inl (Go.IntKind.wrap .i64 (x6 + (1 : Int))))))
                          else
                            (some (Sum.inl (Go.IntKind.wrap .i64 (x6 + (1 : Int)))))))))))
              else
                (some (Sum.inr (Sum.inl ())))) (0 : Int)) fun (y6 : (Unit ⊕ Bool)) =>
          Sum.elim (fun y7 =>
            some (true, ())) (fun y7 =>
            some (y7, ())) y6))))

noncomputable def r9 : PDen [(true, (.pair (.int .i64) (.pair (.int .i64) (.pair (.int .i64) (.pair (.sl (.pair (.pair (.int .i64) (.int .i64)) (.pair (.int .i64) (.pair (.int .i64) (.pair (.int .i64) (.int .i64)))))) (.sl (.pair (.int .i64) (.int .i64))))))))] → Option (PDen [(false, .bool)]) := fun x => afun Try.prog (envOf [(11, ⟨[], [(false, .bool)], false, m11⟩), (12, ⟨[(true, (.pair (.int .i64) (.pair (.int .i64) (.pair (.int .i64) (.pair (.sl (.pair (.pair (.int .i64) (.int .i64)) (.pair (.int .i64) (.pair (.int .i64) (.pair (.int .i64) (.int .i64)))))) (.sl (.pair (.int .i64) (.int .i64))))))))], [(false, .bool)], false, m12⟩), (14, ⟨[(false, (.int .i64)), (false, (.int .i64)), (false, (.sl (.pair (.pair (.int .i64) (.int .i64)) (.pair (.int .i64) (.pair (.int .i64) (.pair (.int .i64) (.int .i64)))))))], [(false, (.sl (.pair (.int .i64) (.int .i64))))], false, m14⟩), (23, ⟨[(true, (.pair (.int .i64) (.pair (.int .i64) (.pair (.int .i64) (.pair (.sl (.int .i64)) (.pair (.sl .bool) (.pair (.pair (.int .i64) (.pair (.int .i64) (.int .i64))) (.sl (.pair (.int .i64) (.sl (.int .i64)))))))))))], [(false, (.int .i64))], false, m23⟩), (30, ⟨[(false, (.sl (.int .i64))), (false, (.int .i64))], [(false, .bool)], false, m30⟩), (31, ⟨[(true, (.pair (.int .i64) (.pair (.int .i64) (.pair (.int .i64) (.pair (.sl (.int .i64)) (.pair (.sl .bool) (.pair (.pair (.int .i64) (.pair (.int .i64) (.int .i64))) (.sl (.pair (.int .i64) (.sl (.int .i64))))))))))), (false, (.int .i64))], [(true, (.pair (.int .i64) (.int .i64))), (false, .bool)], false, m31⟩)] [(25, OM.hd ⟨[(false, (.int .i64)), (false, (.int .i64)), (false, (.int .i64)), (false, (.sl (.pair (.int .i64) (.int .i64))))], [(true, (.pair (.int .i64) (.pair (.int .i64) (.pair (.int .i64) (.pair (.sl (.int .i64)) (.pair (.sl .bool) (.pair (.pair (.int .i64) (.pair (.int .i64) (.int .i64))) (.sl (.pair (.int .i64) (.sl (.int .i64))))))))))), (false, (.sl (.int .i64))), (false, (.int .i64))], [(.p .d (.p .d (.p .d (.p (.s 3) (.p (.s 4) .d))))), (.s 3), .d], false, m25⟩)] [] []) ⟨[(0, ⟨[.slot 42 (.d false (.int .i64) true)], [], [(some 0, []), (none, [.slot 2 (.d false .bool true)])], none⟩)], []⟩ Try.f9 [(true, (.pair (.int .i64) (.pair (.int .i64) (.pair (.int .i64) (.pair (.sl (.pair (.pair (.int .i64) (.int .i64)) (.pair (.int .i64) (.pair (.int .i64) (.pair (.int .i64) (.int .i64)))))) (.sl (.pair (.int .i64) (.int .i64))))))))] [(false, .bool)] false x
theorem r9_eq : r9 = m9 := by kernel_rfl

theorem c9 : CS.Sound Try.prog 9 ⟨[(true, (.pair (.int .i64) (.pair (.int .i64) (.pair (.int .i64) (.pair (.sl (.pair (.pair (.int .i64) (.int .i64)) (.pair (.int .i64) (.pair (.int .i64) (.pair (.int .i64) (.int .i64)))))) (.sl (.pair (.int .i64) (.int .i64))))))))], [(false, .bool)], false, m9⟩ := afun_sound' (envOf_sound (CSs.cons c11 (CSs.cons c12 (CSs.cons c14 (CSs.cons c23 (CSs.cons c30 (CSs.cons c31 (CSs.nil))))))) (HDs.cons (OM.Sound.hd c25) (HDs.nil)) (IDs.nil)) rfl Try.follows (f := 9) (fn := Try.f9) Try.func9 (by kernel_rfl) (by kernel_rfl) r9_eq
end Go.Proofs.Ytefekolpfklhdaa
end

section
/- What function 13 (slipway/slipwayref07.SamePlaces) computes, by the kernel. -/
open Go Go.Proofs.AM
namespace Go.Proofs.Ytefekolpfklhdaa

noncomputable def m13 (x : (List (Int × Int)) × (List (Int × Int)) × Unit) : Option (Bool × Unit) :=
  bif (!(decide ((((List.length x.1) : Nat) : Int) = (((List.length x.2.1) : Nat) : Int)))) then
    (some (false, ()))
  else
    (Option.bind (loopM (X := Int) (E := (Unit ⊕ Bool)) (fun (x1 : Int) =>
        bif (decide (x1 < (((List.length x.1) : Nat) : Int))) then
          (gd ((0 : Int) ≤ x1) (gd (x1 < (((List.length x.1) : Nat) : Int)) (gd ((0 : Int) ≤ x1) (gd (x1 < (((List.length x.2.1) : Nat) : Int)) (bif (!((decide ((List.getD x.1 (Int.toNat x1) ((0 : Int), (0 : Int))).1 = (List.getD x.2.1 (Int.toNat x1) ((0 : Int), (0 : Int))).1)) && (decide ((List.getD x.1 (Int.toNat x1) ((0 : Int), (0 : Int))).2 = (List.getD x.2.1 (Int.toNat x1) ((0 : Int), (0 : Int))).2)))) then
                    (some (Sum.inr (Sum.inr false)))
                  else
                    (some (Sum.inl (Go.IntKind.wrap .i64 (x1 + (1 : Int))))))))))
        else
          (some (Sum.inr (Sum.inl ())))) (0 : Int)) fun (y1 : (Unit ⊕ Bool)) =>
    Sum.elim (fun y2 =>
      some (true, ())) (fun y2 =>
      some (y2, ())) y1)

noncomputable def r13 : PDen [(false, (.sl (.pair (.int .i64) (.int .i64)))), (false, (.sl (.pair (.int .i64) (.int .i64))))] → Option (PDen [(false, .bool)]) := fun x => afun Try.prog (envOf [] [] [] []) ⟨[(0, ⟨[.slot 5 (.d false (.int .i64) true)], [], [(some 0, []), (none, [.slot 4 (.d false .bool true)])], none⟩)], []⟩ Try.f13 [(false, (.sl (.pair (.int .i64) (.int .i64)))), (false, (.sl (.pair (.int .i64) (.int .i64))))] [(false, .bool)] false x
theorem r13_eq : r13 = m13 := by kernel_rfl

theorem c13 : CS.Sound Try.prog 13 ⟨[(false, (.sl (.pair (.int .i64) (.int .i64)))), (false, (.sl (.pair (.int .i64) (.int .i64))))], [(false, .bool)], false, m13⟩ := afun_sound' (envOf_sound (CSs.nil) (HDs.nil) (IDs.nil)) rfl Try.follows (f := 13) (fn := Try.f13) Try.func13 (by kernel_rfl) (by kernel_rfl) r13_eq
end Go.Proofs.Ytefekolpfklhdaa
end

section
/- What function 18 (slipway/slipwayref03.Check) computes, by the kernel. -/
open Go Go.Proofs.AM
namespace Go.Proofs.Ytefekolpfklhdaa

noncomputable def m18 (x : (Int × (Int × (Int × Int))) × Unit) : Option (Int × Unit) :=
  bif (decide (x.1.1 < (1 : Int))) then
    (some ((30 : Int), ()))
  else
    (bif (decide (x.1.1 > (3 : Int))) then
      (some ((30 : Int), ()))
    else
      (bif (decide (x.1.2.1 < (0 : Int))) then
        (some ((30 : Int), ()))
      else
        (bif (decide (x.1.2.1 ≥ (1048576 : Int))) then
          (some ((30 : Int), ()))
        else
          (bif (decide (x.1.2.2.1 < (1 : Int))) then
            (some ((30 : Int), ()))
          else
            (bif (decide (x.1.2.2.2 < x.1.2.2.1)) then
              (some ((30 : Int), ()))
            else
              (bif (decide (x.1.2.2.2 > (1152921504606846976 : Int))) then
                (some ((30 : Int), ()))
              else
                (bif (!(decide (x.1.1 = (1 : Int)))) then
                  (bif (!(decide (x.1.2.2.2 = x.1.2.2.1))) then
                    (some ((30 : Int), ()))
                  else
                    (some ((0 : Int), ())))
                else
                  (some ((0 : Int), ())))))))))

noncomputable def r18 : PDen [(true, (.pair (.int .i64) (.pair (.int .i64) (.pair (.int .i64) (.int .i64)))))] → Option (PDen [(false, (.int .i64))]) := fun x => afun Try.prog (envOf [] [] [] []) ⟨[], []⟩ Try.f18 [(true, (.pair (.int .i64) (.pair (.int .i64) (.pair (.int .i64) (.int .i64)))))] [(false, (.int .i64))] false x
theorem r18_eq : r18 = m18 := by kernel_rfl

theorem c18 : CS.Sound Try.prog 18 ⟨[(true, (.pair (.int .i64) (.pair (.int .i64) (.pair (.int .i64) (.int .i64)))))], [(false, (.int .i64))], false, m18⟩ := afun_sound' (envOf_sound (CSs.nil) (HDs.nil) (IDs.nil)) rfl Try.follows (f := 18) (fn := Try.f18) Try.func18 (by kernel_rfl) (by kernel_rfl) r18_eq
end Go.Proofs.Ytefekolpfklhdaa
end

section
/- What function 44 (slipway/slipwayref07.counts) computes, by the kernel. -/
open Go Go.Proofs.AM
namespace Go.Proofs.Ytefekolpfklhdaa

noncomputable def m44 (x : Int × ((Int × Int) × (Int × (Int × (Int × Int)))) × Unit) : Option (Bool × Unit) :=
  Option.bind (m18 (x.2.1.2, ())) fun (y1 : (Int × Unit)) =>
  bif (decide (y1.1 = (0 : Int))) then
    (bif (!(decide (x.2.1.2.1 = (3 : Int)))) then
      (bif (decide (x.2.1.1.1 ≥ (0 : Int))) then
        (bif (decide (x.2.1.1.1 < (256 : Int))) then
          (bif (decide (x.2.1.1.2 ≥ (0 : Int))) then
            (some ((decide (x.2.1.1.2 < x.1)), ()))
          else
            (some (false, ())))
        else
          (some (false, ())))
      else
        (some (false, ())))
    else
      (some (false, ())))
  else
    (some (false, ()))

noncomputable def r44 : PDen [(false, (.int .i64)), (true, (.pair (.pair (.int .i64) (.int .i64)) (.pair (.int .i64) (.pair (.int .i64) (.pair (.int .i64) (.int .i64))))))] → Option (PDen [(false, .bool)]) := fun x => afun Try.prog (envOf [(18, ⟨[(true, (.pair (.int .i64) (.pair (.int .i64) (.pair (.int .i64) (.int .i64)))))], [(false, (.int .i64))], false, m18⟩)] [] [] []) ⟨[], []⟩ Try.f44 [(false, (.int .i64)), (true, (.pair (.pair (.int .i64) (.int .i64)) (.pair (.int .i64) (.pair (.int .i64) (.pair (.int .i64) (.int .i64))))))] [(false, .bool)] false x
theorem r44_eq : r44 = m44 := by kernel_rfl

theorem c44 : CS.Sound Try.prog 44 ⟨[(false, (.int .i64)), (true, (.pair (.pair (.int .i64) (.int .i64)) (.pair (.int .i64) (.pair (.int .i64) (.pair (.int .i64) (.int .i64))))))], [(false, .bool)], false, m44⟩ := afun_sound' (envOf_sound (CSs.cons c18 (CSs.nil)) (HDs.nil) (IDs.nil)) rfl Try.follows (f := 44) (fn := Try.f44) Try.func44 (by kernel_rfl) (by kernel_rfl) r44_eq
end Go.Proofs.Ytefekolpfklhdaa
end

section
/- What function 71 (slipway/slipwayref03.Newer) computes, by the kernel. -/
open Go Go.Proofs.AM
namespace Go.Proofs.Ytefekolpfklhdaa

noncomputable def m71 (x : (Int × (Int × (Int × Int))) × (Int × (Int × (Int × Int))) × Unit) : Option (Bool × Unit) :=
  bif (decide (x.1.2.2.1 > x.2.1.2.2.1)) then
    (some (true, ()))
  else
    (bif (decide (x.1.2.2.1 = x.2.1.2.2.1)) then
      (some ((decide (x.1.2.2.2 < x.2.1.2.2.2)), ()))
    else
      (some (false, ())))

noncomputable def r71 : PDen [(true, (.pair (.int .i64) (.pair (.int .i64) (.pair (.int .i64) (.int .i64))))), (true, (.pair (.int .i64) (.pair (.int .i64) (.pair (.int .i64) (.int .i64)))))] → Option (PDen [(false, .bool)]) := fun x => afun Try.prog (envOf [] [] [] []) ⟨[], []⟩ Try.f71 [(true, (.pair (.int .i64) (.pair (.int .i64) (.pair (.int .i64) (.int .i64))))), (true, (.pair (.int .i64) (.pair (.int .i64) (.pair (.int .i64) (.int .i64)))))] [(false, .bool)] false x
theorem r71_eq : r71 = m71 := by kernel_rfl

theorem c71 : CS.Sound Try.prog 71 ⟨[(true, (.pair (.int .i64) (.pair (.int .i64) (.pair (.int .i64) (.int .i64))))), (true, (.pair (.int .i64) (.pair (.int .i64) (.pair (.int .i64) (.int .i64)))))], [(false, .bool)], false, m71⟩ := afun_sound' (envOf_sound (CSs.nil) (HDs.nil) (IDs.nil)) rfl Try.follows (f := 71) (fn := Try.f71) Try.func71 (by kernel_rfl) (by kernel_rfl) r71_eq
end Go.Proofs.Ytefekolpfklhdaa
end

section
/- What function 45 (slipway/slipwayref07.less) computes, by the kernel. -/
open Go Go.Proofs.AM
namespace Go.Proofs.Ytefekolpfklhdaa

noncomputable def m45 (x : ((Int × Int) × (Int × (Int × (Int × Int)))) × ((Int × Int) × (Int × (Int × (Int × Int)))) × Unit) : Option (Bool × Unit) :=
  Option.bind (m71 (x.1.2, (x.2.1.2, ()))) fun (y1 : (Bool × Unit)) =>
  bif y1.1 then
    (Option.bind (m71 (x.1.2, (x.2.1.2, ()))) fun (y2 : (Bool × Unit)) =>
    some (y2.1, ()))
  else
    (Option.bind (m71 (x.2.1.2, (x.1.2, ()))) fun (y2 : (Bool × Unit)) =>
    bif y2.1 then
      (Option.bind (m71 (x.1.2, (x.2.1.2, ()))) fun (y3 : (Bool × Unit)) =>
      some (y3.1, ()))
    else
      (bif (decide (x.1.1.1 < x.2.1.1.1)) then
        (some (true, ()))
      else
        (bif (decide (x.1.1.1 = x.2.1.1.1)) then
          (some ((decide (x.1.1.2 < x.2.1.1.2)), ()))
        else
          (some (false, ())))))

noncomputable def r45 : PDen [(true, (.pair (.pair (.int .i64) (.int .i64)) (.pair (.int .i64) (.pair (.int .i64) (.pair (.int .i64) (.int .i64)))))), (true, (.pair (.pair (.int .i64) (.int .i64)) (.pair (.int .i64) (.pair (.int .i64) (.pair (.int .i64) (.int .i64))))))] → Option (PDen [(false, .bool)]) := fun x => afun Try.prog (envOf [(71, ⟨[(true, (.pair (.int .i64) (.pair (.int .i64) (.pair (.int .i64) (.int .i64))))), (true, (.pair (.int .i64) (.pair (.int .i64) (.pair (.int .i64) (.int .i64)))))], [(false, .bool)], false, m71⟩)] [] [] []) ⟨[], []⟩ Try.f45 [(true, (.pair (.pair (.int .i64) (.int .i64)) (.pair (.int .i64) (.pair (.int .i64) (.pair (.int .i64) (.int .i64)))))), (true, (.pair (.pair (.int .i64) (.int .i64)) (.pair (.int .i64) (.pair (.int .i64) (.pair (.int .i64) (.int .i64))))))] [(false, .bool)] false x
theorem r45_eq : r45 = m45 := by kernel_rfl

theorem c45 : CS.Sound Try.prog 45 ⟨[(true, (.pair (.pair (.int .i64) (.int .i64)) (.pair (.int .i64) (.pair (.int .i64) (.pair (.int .i64) (.int .i64)))))), (true, (.pair (.pair (.int .i64) (.int .i64)) (.pair (.int .i64) (.pair (.int .i64) (.pair (.int .i64) (.int .i64))))))], [(false, .bool)], false, m45⟩ := afun_sound' (envOf_sound (CSs.cons c71 (CSs.nil)) (HDs.nil) (IDs.nil)) rfl Try.follows (f := 45) (fn := Try.f45) Try.func45 (by kernel_rfl) (by kernel_rfl) r45_eq
end Go.Proofs.Ytefekolpfklhdaa
end

section
/- What function 15 (slipway/slipwayref07.Newest) computes, by the kernel. -/
open Go Go.Proofs.AM
namespace Go.Proofs.Ytefekolpfklhdaa

noncomputable def m15 (x : Int × Int × (List ((Int × Int) × (Int × (Int × (Int × Int))))) × Unit) : Option ((List (Int × Int)) × Unit) :=
  Option.bind (m43 (x.1, (x.2.1, ((1 : Int), ())))) fun (y1 : ((Int × (Int × (Int × ((List Int) × ((List Bool) × ((Int × (Int × Int)) × (List (Int × (List Int))))))))) × (Int × Unit))) =>
  bif (!(decide (y1.2.1 = (0 : Int)))) then
    (some (([] : List (Int × Int)), ()))
  else
    (Option.bind (loopM (X := ((List (Int × Int)) × Int)) (E := (List (Int × Int))) (fun (x2 : ((List (Int × Int)) × Int)) =>
        bif (decide (x2.2 < (Go.IntKind.wrap .i64 (x.1 * x.2.1)))) then
          (Option.bind (loopM (X := (Int × Int)) (E := Int) (fun (x3 : (Int × Int)) =>
              bif (decide (x3.2 < (((List.length x.2.2.1) : Nat) : Int))) then
                (gd ((0 : Int) ≤ x3.2) (gd (x3.2 < (((List.length x.2.2.1) : Nat) : Int)) (Option.bind (m44 (x.1, ((List.getD x.2.2.1 (Int.toNat x3.2) (((0 : Int), (0 : Int)), ((0 : Int), ((0 : Int), ((0 : Int), (0 : Int)))))), ()))) fun (y4 : (Bool × Unit)) =>
                    bif y4.1 then
                      (bif (decide ((List.getD x.2.2.1 (Int.toNat x3.2) (((0 : Int), (0 : Int)), ((0 : Int), ((0 : Int), ((0 : Int), (0 : Int)))))).2.2.1 = x2.2)) then
                        (bif (decide (x3.1 < (0 : Int))) then
                          (some (Sum.inl (x3.2, (Go.IntKind.wrap .i64 (x3.2 + (1 : Int))))))
                        else
                          (gd ((0 : Int) ≤ x3.1) (gd (x3.1 < (((List.length x.2.2.1) : Nat) : Int)) (Option.bind (m45 ((List.getD x.2.2.1 (Int.toNat x3.2) (((0 : Int), (0 : Int)), ((0 : Int), ((0 : Int), ((0 : Int), (0 : Int)))))), ((List.getD x.2.2.1 (Int.toNat x3.1) (((0 : Int), (0 : Int)), ((0 : Int), ((0 : Int), ((0 : Int), (0 : Int)))))), ()))) fun (y5 : (Bool × Unit)) =>
                              bif y5.1 then
                                (some (Sum.inl (x3.2, (Go.IntKind.wrap .i64 (x3.2 + (1 : Int))))))
                              else
                                (some (Sum.inl (x3.1, (Go.IntKind.wrap .i64 (x3.2 + (1 : Int))))))))))
                      else
                        (some (Sum.inl (x3.1, (Go.IntKind.wrap .i64 (x3.2 + (1 : Int)))))))
                    else
                      (some (Sum.inl (x3.1, (Go.IntKind.wrap .i64 (x3.2 + (1 : Int)))))))))
              else
                (some (Sum.inr x3.1))) ((-1 : Int), (0 : Int))) fun (y3 : Int) =>
          bif (decide (y3 < (0 : Int))) then
            (gd ((((List.length x2.1) + (List.length (((-1 : Int), (0 : Int)) :: ([] : List (Int × Int))))) * 16) ≤ 140737488355328) (gd (((List.length x2.1) + (List.length (((-1 : Int), (0 : Int)) :: ([] : List (Int × Int))))) ≤ 140737488355328) (some (Sum.inl ((x2.1 ++ (((-1 : Int), (0 : Int)) :: ([] : List (Int × Int)))), (Go.IntKind.wrap .i64 (x2.2 + (1 : Int))))))))
          else
            (gd ((0 : Int) ≤ y3) (gd (y3 < (((List.length x.2.2.1) : Nat) : Int)) (gd ((((List.length x2.1) + (List.length ((List.getD x.2.2.1 (Int.toNat y3) (((0 : Int), (0 : Int)), ((0 : Int), ((0 : Int), ((0 : Int), (0 : Int)))))).1 :: ([] : List (Int × Int))))) * 16) ≤ 140737488355328) (gd (((List.length x2.1) + (List.length ((List.getD x.2.2.1 (Int.toNat y3) (((0 : Int), (0 : Int)), ((0 : Int), ((0 : Int), ((0 : Int), (0 : Int)))))).1 :: ([] : List (Int × Int))))) ≤ 140737488355328) (some (Sum.inl ((x2.1 ++ ((List.getD x.2.2.1 (Int.toNat y3) (((0 : Int), (0 : Int)), ((0 : Int), ((0 : Int), ((0 : Int), (0 : Int)))))).1 :: ([] : List (Int × Int)))), (Go.IntKind.wrap .i64 (x2.2 + (1 : Int)))))))))))
        else
          (some (Sum.inr x2.1))) (([] : List (Int × Int)), (0 : Int))) fun (y2 : (List (Int × Int))) =>
    some (y2, ()))

noncomputable def r15 : PDen [(false, (.int .i64)), (false, (.int .i64)), (false, (.sl (.pair (.pair (.int .i64) (.int .i64)) (.pair (.int .i64) (.pair (.int .i64) (.pair (.int .i64) (.int .i64)))))))] → Option (PDen [(false, (.sl (.pair (.int .i64) (.int .i64))))]) := fun x => afun Try.prog (envOf [(44, ⟨[(false, (.int .i64)), (true, (.pair (.pair (.int .i64) (.int .i64)) (.pair (.int .i64) (.pair (.int .i64) (.pair (.int .i64) (.int .i64))))))], [(false, .bool)], false, m44⟩), (45, ⟨[(true, (.pair (.pair (.int .i64) (.int .i64)) (.pair (.int .i64) (.pair (.int .i64) (.pair (.int .i64) (.int .i64)))))), (true, (.pair (.pair (.int .i64) (.int .i64)) (.pair (.int .i64) (.pair (.int .i64) (.pair (.int .i64) (.int .i64))))))], [(false, .bool)], false, m45⟩)] [(43, OM.hd ⟨[(false, (.int .i64)), (false, (.int .i64)), (false, (.int .i64))], [(true, (.pair (.int .i64) (.pair (.int .i64) (.pair (.int .i64) (.pair (.sl (.int .i64)) (.pair (.sl .bool) (.pair (.pair (.int .i64) (.pair (.int .i64) (.int .i64))) (.sl (.pair (.int .i64) (.sl (.int .i64))))))))))), (false, (.int .i64))], [(.p .d (.p .d (.p .d (.p (.s 3) (.p (.s 4) .d))))), .d], true, m43⟩)] [] []) ⟨[(0, ⟨[.slot 9 (.v 34 (.pair (.int .i64) (.int .i64)) true), .slot 10 (.d false (.int .i64) true)], [], [(some 0, [.slot 9 (.v 34 (.pair (.int .i64) (.int .i64)) true)])], none⟩), (2, ⟨[.slot 11 (.d false (.int .i64) true), .slot 12 (.d false (.int .i64) true)], [], [(some 2, [.slot 11 (.d false (.int .i64) true)])], none⟩)], []⟩ Try.f15 [(false, (.int .i64)), (false, (.int .i64)), (false, (.sl (.pair (.pair (.int .i64) (.int .i64)) (.pair (.int .i64) (.pair (.int .i64) (.pair (.int .i64) (.int .i64)))))))] [(false, (.sl (.pair (.int .i64) (.int .i64))))] false x
theorem r15_eq : r15 = m15 := by kernel_rfl

theorem c15 : CS.Sound Try.prog 15 ⟨[(false, (.int .i64)), (false, (.int .i64)), (false, (.sl (.pair (.pair (.int .i64) (.int .i64)) (.pair (.int .i64) (.pair (.int .i64) (.pair (.int .i64) (.int .i64)))))))], [(false, (.sl (.pair (.int .i64) (.int .i64))))], false, m15⟩ := afun_sound' (envOf_sound (CSs.cons c44 (CSs.cons c45 (CSs.nil))) (HDs.cons (OM.Sound.hd c43) (HDs.nil)) (IDs.nil)) rfl Try.follows (f := 15) (fn := Try.f15) Try.func15 (by kernel_rfl) (by kernel_rfl) r15_eq
end Go.Proofs.Ytefekolpfklhdaa
end

section
/- What function 17 (slipway/slipwayref07.Greatest) computes, by the kernel. -/
open Go Go.Proofs.AM
namespace Go.Proofs.Ytefekolpfklhdaa

noncomputable def m17 (x : (List ((Int × Int) × (Int × (Int × (Int × Int))))) × Unit) : Option (Int × Unit) :=
  Option.bind (loopM (X := (Int × Int)) (E := Int) (fun (x1 : (Int × Int)) =>
      bif (decide (x1.2 < (((List.length x.1) : Nat) : Int))) then
        (gd ((0 : Int) ≤ x1.2) (gd (x1.2 < (((List.length x.1) : Nat) : Int)) (Option.bind (m18 ((List.getD x.1 (Int.toNat x1.2) (((0 : Int), (0 : Int)), ((0 : Int), ((0 : Int), ((0 : Int), (0 : Int)))))).2, ())) fun (y2 : (Int × Unit)) =>
            bif (decide (y2.1 = (0 : Int))) then
              (gd ((0 : Int) ≤ x1.2) (gd (x1.2 < (((List.length x.1) : Nat) : Int)) (some (Sum.inl ((if (List.getD x.1 (Int.toNat x1.2) (((0 : Int), (0 : Int)), ((0 : Int), ((0 : Int), ((0 : Int), (0 : Int)))))).2.2.2.2 > x1.1 then (List.getD x.1 (Int.toNat x1.2) (((0 : Int), (0 : Int)), ((0 : Int), ((0 : Int), ((0 : Int), (0 : Int)))))).2.2.2.2 else x1.1), (Go.IntKind.wrap .i64 (x1.2 + (1 : Int))))))))
            else
              (some (Sum.inl (x1.1, (Go.IntKind.wrap .i64 (x1.2 + (1 : Int)))))))))
      else
        (some (Sum.inr x1.1))) ((0 : Int), (0 : Int))) fun (y1 : Int) =>
  some (y1, ())

noncomputable def r17 : PDen [(false, (.sl (.pair (.pair (.int .i64) (.int .i64)) (.pair (.int .i64) (.pair (.int .i64) (.pair (.int .i64) (.int .i64)))))))] → Option (PDen [(false, (.int .i64))]) := fun x => afun Try.prog (envOf [(18, ⟨[(true, (.pair (.int .i64) (.pair (.int .i64) (.pair (.int .i64) (.int .i64)))))], [(false, (.int .i64))], false, m18⟩)] [] [] []) ⟨[(0, ⟨[.slot 3 (.d false (.int .i64) true), .slot 4 (.d false (.int .i64) true)], [], [(some 0, [.slot 3 (.d false (.int .i64) true)])], none⟩)], []⟩ Try.f17 [(false, (.sl (.pair (.pair (.int .i64) (.int .i64)) (.pair (.int .i64) (.pair (.int .i64) (.pair (.int .i64) (.int .i64)))))))] [(false, (.int .i64))] false x
theorem r17_eq : r17 = m17 := by kernel_rfl

theorem c17 : CS.Sound Try.prog 17 ⟨[(false, (.sl (.pair (.pair (.int .i64) (.int .i64)) (.pair (.int .i64) (.pair (.int .i64) (.pair (.int .i64) (.int .i64)))))))], [(false, (.int .i64))], false, m17⟩ := afun_sound' (envOf_sound (CSs.cons c18 (CSs.nil)) (HDs.nil) (IDs.nil)) rfl Try.follows (f := 17) (fn := Try.f17) Try.func17 (by kernel_rfl) (by kernel_rfl) r17_eq
end Go.Proofs.Ytefekolpfklhdaa
end

section
/- What the two readings of a scan come to, with no program in sight. -/
namespace Go.Proofs.Ytefekolpfklhdaa
open Go Go.Proofs.AM

abbrev Rec := Int × (Int × (Int × Int))
abbrev Ent := (Int × Int) × Rec

def chk (r : Rec) : Bool := decide (1 ≤ r.1 ∧ r.1 ≤ 3 ∧ 0 ≤ r.2.1 ∧ r.2.1 < 1048576 ∧ 1 ≤ r.2.2.1 ∧ r.2.2.1 ≤ r.2.2.2 ∧ r.2.2.2 ≤ 1152921504606846976 ∧ (r.1 = 1 ∨ r.2.2.2 = r.2.2.1))
def okE (P : Int) (e : Ent) : Bool := chk e.2 && decide (¬ e.2.1 = 3 ∧ 0 ≤ e.1.1 ∧ e.1.1 < 256 ∧ 0 ≤ e.1.2 ∧ e.1.2 < P)

theorem m18_eq (r : Rec) : m18 (r, ()) = some (if chk r then 0 else 30, ()) := by
  obtain ⟨a, b, c, d⟩ := r
  unfold m18 chk
  simp only [Bool.cond_eq_ite, Bool.not_eq_true', decide_eq_true_eq, decide_eq_false_iff_not]
  repeat' split
  all_goals first | rfl | (exfalso; omega)

theorem m46_eq (r : Rec) : m46 (r, ()) = some (if chk r then 0 else 30, ()) := by
  obtain ⟨a, b, c, d⟩ := r
  unfold m46 chk
  simp only [Bool.cond_eq_ite, Bool.not_eq_true', decide_eq_true_eq, decide_eq_false_iff_not]
  repeat' split
  all_goals first | rfl | (exfalso; omega)

theorem m44_eq (P : Int) (e : Ent) : m44 (P, (e, ())) = some (okE P e, ()) := by
  unfold m44
  rw [m18_eq]
  unfold okE
  cases h : chk e.2
  · simp [h]
  · simp only [Option.bind_some, if_true, decide_true, Bool.cond_true, Bool.cond_eq_ite, Bool.not_eq_true', decide_eq_true_eq, decide_eq_false_iff_not, Bool.true_and]
    repeat' split
    all_goals (congr 2; rw [Bool.eq_iff_iff]; simp only [decide_eq_true_eq, Bool.false_eq_true, false_iff]; omega)

theorem m48_eq (a b c : Int) : m48 (a, (b, (c, ()))) = some (decide (b ≤ a ∧ a ≤ c), ()) := by
  unfold m48
  simp only [Bool.cond_eq_ite, decide_eq_true_eq]
  split <;> (congr 2; rw [Bool.eq_iff_iff]; simp only [decide_eq_true_eq, Bool.false_eq_true, false_iff]; omega)

theorem m68_eq {P : Int} (h1 : 4 ≤ P) (h2 : P ≤ 32) (e : Ent) : m68 (P, (e, ())) = some (okE P e, ()) := by
  unfold m68
  rw [m46_eq]
  unfold okE
  cases h : chk e.2
  · simp [h]
  · simp only [m48_eq, wrap64 (n := P - 1) (by omega) (by omega), Option.bind_some, if_true, decide_true, Bool.cond_true, Bool.cond_eq_ite, Bool.not_eq_true', decide_eq_true_eq, decide_eq_false_iff_not, Bool.true_and]
    repeat' split
    all_goals (congr 2; rw [Bool.eq_iff_iff]; simp only [decide_eq_true_eq, Bool.false_eq_true, false_iff]; omega)

def newer (a b : Rec) : Bool := decide (a.2.2.1 > b.2.2.1 ∨ (a.2.2.1 = b.2.2.1 ∧ a.2.2.2 < b.2.2.2))
theorem m69_eq (a b : Rec) : m69 (a, (b, ())) = some (newer a b, ()) := by
  unfold m69 newer
  simp only [Bool.cond_eq_ite, Bool.not_eq_true', decide_eq_true_eq, decide_eq_false_iff_not]
  repeat' split
  all_goals (congr 2; rw [Bool.eq_iff_iff]; simp only [decide_eq_true_eq, Bool.false_eq_true, false_iff, true_iff]; omega)
theorem m71_eq (a b : Rec) : m71 (a, (b, ())) = some (newer a b, ()) := by
  unfold m71 newer
  simp only [Bool.cond_eq_ite, Bool.not_eq_true', decide_eq_true_eq, decide_eq_false_iff_not]
  repeat' split
  all_goals (congr 2; rw [Bool.eq_iff_iff]; simp only [decide_eq_true_eq, Bool.false_eq_true, false_iff, true_iff]; omega)

def bt (a b : Ent) : Bool := newer a.2 b.2 || (!newer b.2 a.2 && decide (a.1.1 < b.1.1 ∨ (a.1.1 = b.1.1 ∧ a.1.2 < b.1.2)))
theorem m40_eq (a b : Ent) : m40 (a, (b, ())) = some (bt a b, ()) := by
  unfold m40 bt
  simp only [m69_eq, Option.bind_some]
  cases newer a.2 b.2 <;> cases newer b.2 a.2 <;> simp [Bool.cond_eq_ite]
  by_cases h : a.1.1 = b.1.1 <;> simp [h]
theorem m45_eq (a b : Ent) : m45 (a, (b, ())) = some (bt a b, ()) := by
  unfold m45 bt
  simp only [m71_eq, Option.bind_some]
  cases newer a.2 b.2 <;> cases newer b.2 a.2 <;> simp [Bool.cond_eq_ite]
  by_cases h : a.1.1 = b.1.1
  · simp [h]
  · by_cases h2 : a.1.1 < b.1.1 <;> simp [h, h2]

/-! ### a page's newest record -/
def bestStep (P p : Int) (o : Option Ent) (e : Ent) : Option Ent :=
  if okE P e = true ∧ e.2.2.1 = p then (match o with
    | none => some e
    | some b => if bt e b then some e else some b) else o
def best (P p : Int) (l : List Ent) : Option Ent := l.foldl (bestStep P p) none
def R (P : Int) (l : List Ent) (p : Nat) : Int × Int := match best P p l with
  | none => (-1, 0)
  | some e => e.1

theorem best_snoc (P p : Int) (l : List Ent) (e : Ent) : best P p (l ++ [e]) = bestStep P p (best P p l) e := by simp [best, List.foldl_append]

theorem take_snoc {A : Type} (l : List A) (i : Nat) (h : i < l.length) (z : A) : l.take (i + 1) = l.take i ++ [l.getD i z] := by
  rw [List.take_add_one, List.getD_eq_getElem?_getD, List.getElem?_eq_getElem h]; rfl

/-! ### slices of one thing repeated -/
theorem m89_one : ∀ n : Fin 1025, m89 (1, ((n.val : Int), ())) = some (0, ((n.val : Int), ())) := by
  unfold m89; decide +kernel

theorem rep_copy {A : Type} (a z : A) (N b : Nat) (hb : b < N) :
    (List.take b (List.replicate b a ++ List.replicate (N - b) z) ++ List.take (N - b) (List.take b (List.replicate b a ++ List.replicate (N - b) z)) ++ List.drop (b + min b (N - b)) (List.replicate b a ++ List.replicate (N - b) z)) = List.replicate (b + min b (N - b)) a ++ List.replicate (N - (b + min b (N - b))) z := by
  have e1 : List.take b (List.replicate b a ++ List.replicate (N - b) z) = List.replicate b a := by simp [List.take_append]
  rw [e1]
  have e2 : List.take (N - b) (List.replicate b a) = List.replicate (min b (N - b)) a := by rw [List.take_replicate, Nat.min_comm]
  rw [e2, List.replicate_append_replicate]
  congr 1
  rw [List.drop_append]
  simp [List.drop_replicate]
  omega

end Go.Proofs.Ytefekolpfklhdaa

namespace Go.Proofs.Ytefekolpfklhdaa
open Go Go.Proofs.AM

theorem m41_eq (a : Int × Int) (N : Nat) (n1 : 1 ≤ N) (n2 : N ≤ 1024) : m41 ([a], ((N : Int), ())) = some (List.replicate N a) := by
  have hm : m70 ((IntKind.wrap .u64 (((List.length [a]) : Nat) : Int)), ((IntKind.wrap .u64 (N : Int)), ())) = some (0, ((N : Int), ())) := by
    rw [wrapU64 (n := (N : Int)) (by omega) (by omega), wrapU64 (n := ((List.length [a] : Nat) : Int)) (by simp) (by simp)]
    unfold m70
    have := m89_one ⟨N, by omega⟩
    simp only [List.length_singleton] at this ⊢
    rw [show ((1 : Nat) : Int) = 1 from rfl, this]; rfl
  unfold m41
  simp only [hm, Option.bind_some]
  rw [wrap64 (n := (N : Int)) (by omega) (by omega)]
  simp only [Bool.cond_eq_ite, decide_eq_true_eq]
  rw [if_neg (by omega), if_neg (by omega), if_neg (by omega), gd_pos (by omega), gd_pos (by omega), gd_pos (by omega)]
  rw [loop_wf (e := List.replicate N a) (fun x e => ∃ b : Nat, 1 ≤ b ∧ b ≤ N ∧ x = ((b : Int), List.replicate b a ++ List.replicate (N - b) (0, 0)) ∧ e = List.replicate N a) (fun x => N - x.1.toNat)]
  · rfl
  · rintro x e ⟨b, b1, b2, rfl, rfl⟩
    have hl : (List.replicate b a ++ List.replicate (N - b) ((0 : Int), (0 : Int))).length = N := by simp; omega
    simp only [hl]
    by_cases hb : b < N
    · right
      refine ⟨(((b + min b (N - b) : Nat) : Int), _), ?_, ⟨b + min b (N - b), by omega, by omega, rfl, trivial⟩, ?_⟩
      · rw [if_pos (by omega), gd_pos (by omega), gd_pos (by omega), gd_pos (by omega), gd_pos (by omega), gd_pos (by omega)]
        simp only [Int.toNat_natCast, Int.toNat_zero, Nat.sub_zero, List.drop_zero, List.length_take, hl, Nat.min_eq_left b2]
        rw [rep_copy _ _ _ _ hb, wrap64 (by omega) (by omega)]
        congr 4
      · simp only [Int.toNat_natCast]; omega
    · left
      obtain rfl : b = N := by omega
      rw [if_neg (by omega)]
      simp
  · refine ⟨1, by omega, n1, ?_, rfl⟩
    simp only [List.length_singleton, List.length_replicate, Int.toNat_natCast]
    congr 1
    · omega
    · rw [List.drop_replicate, List.take_of_length_le (by simp; omega)]; rfl

theorem m66_eq (a : Int) (N : Nat) (n1 : 1 ≤ N) (n2 : N ≤ 1024) : m66 ([a], ((N : Int), ())) = some (List.replicate N a) := by
  have hm : m70 ((IntKind.wrap .u64 (((List.length [a]) : Nat) : Int)), ((IntKind.wrap .u64 (N : Int)), ())) = some (0, ((N : Int), ())) := by
    rw [wrapU64 (n := (N : Int)) (by omega) (by omega), wrapU64 (n := ((List.length [a] : Nat) : Int)) (by simp) (by simp)]
    unfold m70
    have := m89_one ⟨N, by omega⟩
    simp only [List.length_singleton] at this ⊢
    rw [show ((1 : Nat) : Int) = 1 from rfl, this]; rfl
  unfold m66
  simp only [hm, Option.bind_some]
  rw [wrap64 (n := (N : Int)) (by omega) (by omega)]
  simp only [Bool.cond_eq_ite, decide_eq_true_eq]
  rw [if_neg (by omega), if_neg (by omega), if_neg (by omega), gd_pos (by omega), gd_pos (by omega), gd_pos (by omega)]
  rw [loop_wf (e := List.replicate N a) (fun x e => ∃ b : Nat, 1 ≤ b ∧ b ≤ N ∧ x = ((b : Int), List.replicate b a ++ List.replicate (N - b) 0) ∧ e = List.replicate N a) (fun x => N - x.1.toNat)]
  · rfl
  · rintro x e ⟨b, b1, b2, rfl, rfl⟩
    have hl : (List.replicate b a ++ List.replicate (N - b) (0 : Int)).length = N := by simp; omega
    simp only [hl]
    by_cases hb : b < N
    · right
      refine ⟨(((b + min b (N - b) : Nat) : Int), _), ?_, ⟨b + min b (N - b), by omega, by omega, rfl, trivial⟩, ?_⟩
      · rw [if_pos (by omega), gd_pos (by omega), gd_pos (by omega), gd_pos (by omega), gd_pos (by omega), gd_pos (by omega)]
        simp only [Int.toNat_natCast, Int.toNat_zero, Nat.sub_zero, List.drop_zero, List.length_take, hl, Nat.min_eq_left b2]
        rw [rep_copy _ _ _ _ hb, wrap64 (by omega) (by omega)]
        congr 4
      · simp only [Int.toNat_natCast]; omega
    · left
      obtain rfl : b = N := by omega
      rw [if_neg (by omega)]
      simp
  · refine ⟨1, by omega, n1, ?_, rfl⟩
    simp only [List.length_singleton, List.length_replicate, Int.toNat_natCast]
    congr 1
    · omega
    · rw [List.drop_replicate, List.take_of_length_le (by simp; omega)]; rfl

def shelfOk (P L : Int) : Bool := decide (4 ≤ P ∧ P ≤ 32 ∧ 1 ≤ L ∧ L ≤ 256)

theorem m38_ok {P L : Int} (h : shelfOk P L = true) : ∃ v, m38 (P, (L, (1, ()))) = some (v, (0, ())) := by
  simp only [shelfOk, decide_eq_true_eq] at h
  obtain ⟨N, rfl⟩ : ∃ N : Nat, L = N := ⟨L.toNat, by omega⟩
  have hp : 0 ≤ (N : Int) * P ∧ (N : Int) * P ≤ 256 * 32 := ⟨Int.mul_nonneg (by omega) (by omega), by
    have := Int.mul_le_mul (a := (N : Int)) (b := P) (c := 256) (d := 32) (by omega) (by omega) (by omega) (by omega)
    exact this⟩
  unfold m38
  simp only [Bool.cond_eq_ite, decide_eq_true_eq]
  rw [if_neg (by omega), if_neg (by omega), if_neg (by omega), if_neg (by omega), if_neg (by omega), if_neg (by omega), m66_eq _ _ (by omega) (by omega), wrap64 (n := (N : Int) * P) (by omega) (by omega)]
  simp only [Option.bind_some]
  rw [gd_pos (by omega), gd_pos (by omega), gd_pos (by omega)]
  exact ⟨_, rfl⟩

theorem m38_bad {P L : Int} (h : shelfOk P L = false) : ∃ v, m38 (P, (L, (1, ()))) = some (v, (1, ())) := by
  simp only [shelfOk, decide_eq_false_iff_not] at h
  unfold m38
  simp only [Bool.cond_eq_ite, decide_eq_true_eq]
  repeat' split
  all_goals first | exact ⟨_, rfl⟩ | (exfalso; omega)

theorem m43_ok {P L : Int} (h : shelfOk P L = true) : ∃ v, m43 (P, (L, (1, ()))) = some (v, (0, ())) := by
  simp only [shelfOk, decide_eq_true_eq] at h
  obtain ⟨N, rfl⟩ : ∃ N : Nat, L = N := ⟨L.toNat, by omega⟩
  have hp : 0 ≤ P * (N : Int) ∧ P * (N : Int) ≤ 32 * 256 := ⟨Int.mul_nonneg (by omega) (by omega), by
    have := Int.mul_le_mul (a := P) (b := (N : Int)) (c := 32) (d := 256) (by omega) (by omega) (by omega) (by omega)
    exact this⟩
  unfold m43
  simp only [Bool.cond_eq_ite, decide_eq_true_eq]
  rw [if_neg (by omega), if_neg (by omega), if_neg (by omega), if_neg (by omega), if_neg (by omega), if_neg (by omega), wrap64 (n := P * (N : Int)) (by omega) (by omega)]
  rw [loop_idx' N (fun i => ((i : Int), (P, ((N : Int), (1, (List.replicate i (-1 : Int), ([], (0, (0, (0, [])))))))))) ?_ ?_ (e := (P, ((N : Int), (1, (List.replicate N (-1 : Int), ([], (0, (0, (0, []))))))))) ?_]
  · simp only [Option.bind_some]
    rw [gd_pos (by omega), gd_pos (by omega), gd_pos (by omega)]
    exact ⟨_, rfl⟩
  · rfl
  · intro i hi
    simp only
    rw [if_pos (by omega), gd_pos (by simp; omega), gd_pos (by simp; omega), wrap64 (by omega) (by omega)]
    simp only [List.replicate_succ', Int.natCast_add, Int.natCast_one]
  · simp only
    rw [if_neg (by omega)]

theorem m43_bad {P L : Int} (h : shelfOk P L = false) : ∃ v, m43 (P, (L, (1, ()))) = some (v, (1, ())) := by
  simp only [shelfOk, decide_eq_false_iff_not] at h
  unfold m43
  simp only [Bool.cond_eq_ite, decide_eq_true_eq]
  repeat' split
  all_goals first | exact ⟨_, rfl⟩ | (exfalso; omega)

theorem m13_eq (l : List (Int × Int)) (h : l.length ≤ 1000000) : m13 (l, (l, ())) = some (true, ()) := by
  unfold m13
  simp only [Bool.cond_eq_ite, decide_eq_true_eq, decide_true, Bool.not_true, Bool.false_eq_true, if_false, Bool.and_self]
  rw [loop_idx' l.length (fun i => (i : Int)) ?_ ?_ (e := .inl ()) ?_]
  · rfl
  · rfl
  · intro i hi
    rw [if_pos (by omega), gd_pos (by omega), gd_pos (by omega), gd_pos (by omega), gd_pos (by omega), wrap64 (by omega) (by omega)]
    rfl
  · rw [if_neg (by omega)]

def great (l : List Ent) : Nat → Int
  | 0 => 0
  | i + 1 => if chk (l.getD i ((0, 0), (0, (0, (0, 0))))).2 = true then (if (l.getD i ((0, 0), (0, (0, (0, 0))))).2.2.2.2 > great l i then (l.getD i ((0, 0), (0, (0, (0, 0))))).2.2.2.2 else great l i) else great l i

theorem m16_eq (l : List Ent) (h : l.length ≤ 1000000) : m16 (l, ()) = some (great l l.length, ()) := by
  unfold m16
  simp only [Bool.cond_eq_ite, decide_eq_true_eq]
  rw [loop_idx' l.length (fun i => (great l i, (i : Int))) ?_ ?_ (e := great l l.length) ?_]
  · rfl
  · rfl
  · intro i hi
    simp only
    rw [if_pos (by omega), gd_pos (by omega), gd_pos (by omega), wrap64 (by omega) (by omega), Int.toNat_natCast, m46_eq]
    simp only [Option.bind_some, great]
    cases chk (l.getD i ((0, 0), (0, (0, (0, 0))))).2 <;> simp
  · simp only
    rw [if_neg (by omega)]

theorem m17_eq (l : List Ent) (h : l.length ≤ 1000000) : m17 (l, ()) = some (great l l.length, ()) := by
  unfold m17
  simp only [Bool.cond_eq_ite, decide_eq_true_eq]
  rw [loop_idx' l.length (fun i => (great l i, (i : Int))) ?_ ?_ (e := great l l.length) ?_]
  · rfl
  · rfl
  · intro i hi
    simp only
    rw [if_pos (by omega), gd_pos (by omega), gd_pos (by omega), wrap64 (by omega) (by omega), Int.toNat_natCast, m18_eq]
    simp only [Option.bind_some, great]
    rw [gd_pos (by omega), gd_pos (by omega)]
    cases chk (l.getD i ((0, 0), (0, (0, (0, 0))))).2 <;> simp
  · simp only
    rw [if_neg (by omega)]
end Go.Proofs.Ytefekolpfklhdaa

namespace Go.Proofs.Ytefekolpfklhdaa
open Go Go.Proofs.AM

abbrev z0 : Ent := ((0, 0), (0, (0, (0, 0))))

def pick (P N : Int) (m : List (Int × Ent)) (e : Ent) : List (Int × Ent) :=
  if okE P e = true ∧ e.2.2.1 < N then (match ifind m e.2.2.1 with
    | none => mset (false, .int .i64) m e.2.2.1 e
    | some b => if bt e b = true then mset (false, .int .i64) m e.2.2.1 e else m) else m
def picks (P N : Int) (l : List Ent) : List (Int × Ent) := l.foldl (pick P N) []

theorem okE_page {P : Int} {e : Ent} (h : okE P e = true) : 0 ≤ e.2.2.1 := by
  simp only [okE, chk, Bool.and_eq_true, decide_eq_true_eq] at h; omega

theorem bestStep_page {P p : Int} {l : List Ent} {b : Ent} (h : best P p l = some b) : b.2.2.1 = p ∧ okE P b = true := by
  suffices H : ∀ (l : List Ent) (o : Option Ent), (∀ b, o = some b → b.2.2.1 = p ∧ okE P b = true) → ∀ b, l.foldl (bestStep P p) o = some b → b.2.2.1 = p ∧ okE P b = true from
    H l none (fun b h => by simp at h) b h
  intro l
  induction l with
  | nil => intro o ho b hb; exact ho b hb
  | cons e l ih =>
    intro o ho b hb
    refine ih _ ?_ b hb
    intro b hb
    unfold bestStep at hb
    split at hb
    · rename_i hc
      split at hb
      · simp at hb; subst hb; exact ⟨hc.2, hc.1⟩
      · split at hb
        · simp at hb; subst hb; exact ⟨hc.2, hc.1⟩
        · exact ho b hb
    · exact ho b hb

theorem picks_ok (P N : Int) (l : List Ent) : ((picks P N l).map Prod.fst).Nodup ∧ (∀ k, k ∈ (picks P N l).map Prod.fst → 0 ≤ k ∧ k < N) ∧ ∀ p, p < N → ifind (picks P N l) p = best P p l := by
  suffices H : ∀ (l : List Ent) (m : List (Int × Ent)) (o : Int → Option Ent), ((m.map Prod.fst).Nodup ∧ (∀ k, k ∈ m.map Prod.fst → 0 ≤ k ∧ k < N) ∧ ∀ p, p < N → ifind m p = o p) →
      (((l.foldl (pick P N) m).map Prod.fst).Nodup ∧ (∀ k, k ∈ (l.foldl (pick P N) m).map Prod.fst → 0 ≤ k ∧ k < N) ∧ ∀ p, p < N → ifind (l.foldl (pick P N) m) p = l.foldl (bestStep P p) (o p)) from
    H l [] (fun _ => none) ⟨by simp, by simp, fun p _ => rfl⟩
  intro l
  induction l with
  | nil => intro m o h; exact h
  | cons e l ih =>
    intro m o h
    refine ih (pick P N m e) (fun p => bestStep P p (o p) e) ?_
    obtain ⟨h1, h2, h3⟩ := h
    unfold pick
    by_cases hc : okE P e = true ∧ e.2.2.1 < N
    · have set : ∀ (q : ∀ p, p < N → (if p = e.2.2.1 then some e else ifind m p) = bestStep P p (o p) e), ((mset (false, .int .i64) m e.2.2.1 e).map Prod.fst).Nodup ∧ (∀ k, k ∈ (mset (false, .int .i64) m e.2.2.1 e).map Prod.fst → 0 ≤ k ∧ k < N) ∧ ∀ p, p < N → ifind (mset (false, .int .i64) m e.2.2.1 e) p = bestStep P p (o p) e := by
        intro q
        refine ⟨mset_nodup _ _ _ h1, fun k hk => ?_, fun p hp => ?_⟩
        · rcases mset_keys _ _ _ _ hk with rfl | hk
          · exact ⟨okE_page hc.1, hc.2⟩
          · exact h2 k hk
        · rw [mset_ifind]; exact q p hp
      rw [if_pos hc]
      cases hf : ifind m e.2.2.1 with
      | none =>
        refine set fun p hp => ?_
        unfold bestStep
        by_cases hpe : p = e.2.2.1
        · subst hpe
          rw [if_pos rfl, if_pos ⟨hc.1, rfl⟩, ← h3 _ hp, hf]
        · rw [if_neg hpe, if_neg (fun h => hpe h.2.symm)]; exact h3 p hp
      | some b =>
        by_cases hb : bt e b = true
        · simp only [hb, if_true]
          refine set fun p hp => ?_
          unfold bestStep
          by_cases hpe : p = e.2.2.1
          · subst hpe
            rw [if_pos rfl, if_pos ⟨hc.1, rfl⟩, ← h3 _ hp, hf]; simp [hb]
          · rw [if_neg hpe, if_neg (fun h => hpe h.2.symm)]; exact h3 p hp
        · simp only [hb]
          refine ⟨h1, h2, fun p hp => ?_⟩
          show ifind m p = _
          unfold bestStep
          by_cases hpe : p = e.2.2.1
          · subst hpe
            rw [if_pos ⟨hc.1, rfl⟩, ← h3 _ hp, hf]; simp [hb]
          · rw [if_neg (fun h : okE P e = true ∧ e.2.2.1 = p => hpe h.2.symm)]; exact h3 p hp
    · rw [if_neg hc]
      refine ⟨h1, h2, fun p hp => ?_⟩
      unfold bestStep
      rw [if_neg (fun h : okE P e = true ∧ e.2.2.1 = p => hc ⟨h.1, h.2 ▸ hp⟩)]
      exact h3 p hp

theorem picks_snoc (P N : Int) (l : List Ent) (e : Ent) : picks P N (l ++ [e]) = pick P N (picks P N l) e := by simp [picks, List.foldl_append]

theorem m14_eq' (P L : Int) (l : List Ent) (hs : shelfOk P L = true) (hL : L * P ≤ 1024) (hl : l.length ≤ 1000000) : m14 (P, (L, (l, ()))) = some ((List.range (P * L).toNat).map (R P l), ()) := by
  have hs' := hs
  simp only [shelfOk, decide_eq_true_eq] at hs'
  have hp : 0 < L * P ∧ L * P ≤ 32 * 32 := ⟨Int.mul_pos (by omega) (by omega), by omega⟩
  obtain ⟨v, hv⟩ := m38_ok hs
  have hN : L * P = ((L * P).toNat : Int) := by omega
  have hPL : P * L = L * P := Int.mul_comm _ _
  obtain ⟨k1, k2, k3⟩ := picks_ok P (L * P) l
  unfold m14
  simp only [hv, Option.bind_some, Bool.cond_eq_ite, decide_eq_true_eq, decide_true, Bool.not_true, Bool.false_eq_true, if_false]
  rw [wrap64 (n := L * P) (by omega) (by omega)]
  rw [loop_idx' l.length (fun i => ((i : Int), picks P (L * P) (l.take i))) ?_ ?_ (e := picks P (L * P) l) ?_]
  · simp only [Option.bind_some, m42]
    have h41 := m41_eq (-1, 0) (L * P).toNat (by omega) (by omega)
    rw [← hN] at h41
    rw [h41]
    simp only [Option.bind_some]
    rw [anyM_of (e := (List.range (L * P).toNat).map (R P l)) (fun w (x : List (Int × Int)) => x.length = (L * P).toNat ∧ (w.map Prod.fst).Nodup ∧ (∀ q, q ∈ w → q ∈ picks P (L * P) l) ∧ ∀ p : Nat, p < (L * P).toNat → ((p : Int) ∉ w.map Prod.fst) → x[p]? = some (R P l p))]
    · rw [hPL]; rfl
    · rintro w x ⟨q1, q2, q3, q4⟩ j p hj
      left
      have hm : p ∈ w := List.mem_of_getElem? hj
      have hk := k2 p.1 (List.mem_map_of_mem (f := Prod.fst) (q3 _ hm))
      refine ⟨x.set p.1.toNat p.2.1, ?_, ?_⟩
      · rw [gd_pos (by omega), gd_pos (by omega), gd_pos (by omega)]
      · have hw : w.map Prod.fst = (w.map Prod.fst) := rfl
        refine ⟨by simp [q1], ?_, fun q hq => q3 q (List.mem_of_mem_eraseIdx hq), fun i hi hn => ?_⟩
        · exact q2.sublist ((List.eraseIdx_sublist _ _).map _)
        · rw [List.getElem?_set]
          by_cases hip : p.1.toNat = i
          · rw [if_pos hip, if_pos (by omega)]
            have hf := ifind_mem k1 (show (p.1, p.2) ∈ picks P (L * P) l from q3 _ hm)
            rw [k3 _ hk.2] at hf
            unfold R
            rw [show (i : Int) = p.1 by omega, hf]
          · rw [if_neg hip]
            refine q4 i hi fun hc => ?_
            obtain ⟨q, hq, hqi⟩ := List.mem_map.1 hc
            refine hn (List.mem_map.2 ⟨q, ?_, hqi⟩)
            rw [List.mem_eraseIdx_iff_getElem?]
            obtain ⟨j', hj'⟩ := List.mem_iff_getElem?.1 hq
            refine ⟨j', fun e => ?_, hj'⟩
            subst e
            rw [hj] at hj'
            obtain rfl : p = q := by simpa using hj'
            omega
    · rintro x ⟨q1, -, -, q4⟩
      congr 2
      refine List.ext_getElem? fun i => ?_
      by_cases hi : i < (L * P).toNat
      · rw [q4 i hi (by simp)]; simp [hi]
      · rw [List.getElem?_eq_none (by omega), List.getElem?_eq_none (by simp; omega)]
    · refine ⟨by simp, k1, fun q hq => hq, fun p hp hn => ?_⟩
      rw [List.getElem?_replicate, if_pos hp]
      have := ifind_none hn
      rw [k3 _ (by omega)] at this
      unfold R; rw [this]
  · rfl
  · intro i hi
    simp only
    rw [if_pos (by omega), gd_pos (by omega), gd_pos (by omega), m68_eq (by omega) (by omega)]
    rw [take_snoc l i hi ((0, 0), (0, (0, (0, 0)))), picks_snoc]
    simp only [Int.toNat_natCast]
    generalize l.getD i ((0, 0), (0, (0, (0, 0)))) = e
    simp only [ Option.bind_some, mhas_ifind, mget_ifind, m40_eq, wrap64 (n := (i : Int) + 1) (by omega) (by omega)]
    unfold pick
    by_cases h1 : okE P e = true
    · rw [if_pos h1]
      by_cases h2 : e.2.2.1 < L * P
      · have hc : okE P e = true ∧ e.2.2.1 < L * P := ⟨h1, h2⟩
        rw [if_neg (show ¬ e.2.2.1 ≥ L * P by omega), if_pos hc]
        cases h3 : ifind (picks P (L * P) (l.take i)) e.2.2.1 with
        | none => simp
        | some b =>
          by_cases h4 : bt e b = true <;> simp [h4]
      · rw [if_pos (show e.2.2.1 ≥ L * P by omega), if_neg (fun h : okE P e = true ∧ e.2.2.1 < L * P => h2 h.2)]; rfl
    · rw [if_neg h1, if_neg (fun h : okE P e = true ∧ e.2.2.1 < L * P => h1 h.1)]; rfl
  · simp only [List.take_length]
    rw [if_neg (by omega)]

theorem m14_eq (P L : Int) (l : List Ent) (hs : shelfOk P L = true) (hL : L ≤ 32) (hl : l.length ≤ 1000000) : m14 (P, (L, (l, ()))) = some ((List.range (P * L).toNat).map (R P l), ()) := by
  have hs' := hs
  simp only [shelfOk, decide_eq_true_eq] at hs'
  exact m14_eq' P L l hs (by have := Int.mul_le_mul (a := L) (b := P) (c := 32) (d := 32) (by omega) (by omega) (by omega) (by omega); omega) hl

theorem m14_bad (P L : Int) (l : List Ent) (hs : shelfOk P L = false) : m14 (P, (L, (l, ()))) = some ([], ()) := by
  obtain ⟨v, hv⟩ := m38_bad hs
  unfold m14
  simp only [hv, Option.bind_some]; rfl

theorem m15_bad (P L : Int) (l : List Ent) (hs : shelfOk P L = false) : m15 (P, (L, (l, ()))) = some ([], ()) := by
  obtain ⟨v, hv⟩ := m43_bad hs
  unfold m15
  simp only [hv, Option.bind_some]; rfl

def bIdx (P p : Int) (l : List Ent) : Nat → Int
  | 0 => -1
  | j + 1 => if okE P (l.getD j z0) = true ∧ (l.getD j z0).2.2.1 = p then (if bIdx P p l j < 0 then j else if bt (l.getD j z0) (l.getD (bIdx P p l j).toNat z0) = true then j else bIdx P p l j) else bIdx P p l j

theorem bIdx_ok (P p : Int) (l : List Ent) : ∀ j, j ≤ l.length → (bIdx P p l j < 0 ∧ best P p (l.take j) = none) ∨ (0 ≤ bIdx P p l j ∧ bIdx P p l j < j ∧ best P p (l.take j) = some (l.getD (bIdx P p l j).toNat z0))
  | 0, _ => .inl ⟨by simp [bIdx], rfl⟩
  | j + 1, hj => by
    have ih := bIdx_ok P p l j (by omega)
    rw [take_snoc l j (by omega) z0, best_snoc]
    unfold bIdx bestStep
    by_cases hc : okE P (l.getD j z0) = true ∧ (l.getD j z0).2.2.1 = p
    · rw [if_pos hc, if_pos hc]
      rcases ih with ⟨h1, h2⟩ | ⟨h1, h2, h3⟩
      · right; rw [if_pos h1, h2]; exact ⟨by omega, by omega, by simp⟩
      · rw [if_neg (by omega), h3]
        by_cases hb : bt (l.getD j z0) (l.getD (bIdx P p l j).toNat z0) = true
        · right; simp only [hb, if_true]; exact ⟨by omega, by omega, by simp⟩
        · right; simp only [hb]; exact ⟨by simp; omega, by simp; omega, by simp⟩
    · rw [if_neg hc, if_neg hc]
      rcases ih with h | ⟨h1, h2, h3⟩
      · exact .inl h
      · right; exact ⟨h1, by omega, h3⟩

theorem m15_eq (P L : Int) (l : List Ent) (hs : shelfOk P L = true) (hL : L ≤ 32) (hl : l.length ≤ 1000000) : m15 (P, (L, (l, ()))) = some ((List.range (P * L).toNat).map (R P l), ()) := by
  have hs' := hs
  simp only [shelfOk, decide_eq_true_eq] at hs'
  have hp : 0 < P * L ∧ P * L ≤ 32 * 32 := ⟨Int.mul_pos (by omega) (by omega), Int.mul_le_mul (a := P) (b := L) (c := 32) (d := 32) (by omega) (by omega) (by omega) (by omega)⟩
  obtain ⟨v, hv⟩ := m43_ok hs
  unfold m15
  simp only [hv, Option.bind_some, Bool.cond_eq_ite, decide_eq_true_eq, decide_true, Bool.not_true, Bool.false_eq_true, if_false]
  rw [wrap64 (n := P * L) (by omega) (by omega)]
  rw [loop_idx' (P * L).toNat (fun i => ((List.range i).map (R P l), (i : Int))) ?_ ?_ (e := (List.range (P * L).toNat).map (R P l)) ?_]
  · rfl
  · rfl
  · intro i hi
    simp only
    rw [if_pos (by omega)]
    rw [loop_idx' l.length (fun j => (bIdx P i l j, (j : Int))) ?_ ?_ (e := bIdx P i l l.length) ?_]
    · have hb := bIdx_ok P i l l.length (Nat.le_refl _)
      rw [List.take_length] at hb
      have hR : R P l i = match best P i l with
        | none => (-1, 0)
        | some e => e.1 := rfl
      simp only [Option.bind_some, List.length_map, List.length_range, List.length_singleton, List.range_succ, List.map_append, List.map_cons, List.map_nil]
      rcases hb with ⟨h1, h2⟩ | ⟨h1, h2, h3⟩
      · rw [if_pos h1, gd_pos (by omega), gd_pos (by omega), wrap64 (by omega) (by omega), hR, h2]; simp
      · rw [if_neg (by omega), gd_pos (by omega), gd_pos (by omega), gd_pos (by omega), gd_pos (by omega), wrap64 (by omega) (by omega), hR, h3]; simp
    · rfl
    · intro j hj
      have hb := bIdx_ok P i l j (by omega)
      simp only
      rw [if_pos (by omega), gd_pos (by omega), gd_pos (by omega), m44_eq]
      simp only [Int.toNat_natCast, Option.bind_some, m45_eq, wrap64 (n := (j : Int) + 1) (by omega) (by omega)]
      rw [show bIdx P i l (j + 1) = if okE P (l.getD j z0) = true ∧ (l.getD j z0).2.2.1 = i then (if bIdx P i l j < 0 then (j : Int) else if bt (l.getD j z0) (l.getD (bIdx P i l j).toNat z0) = true then (j : Int) else bIdx P i l j) else bIdx P i l j from rfl]
      by_cases c1 : okE P (l.getD j z0) = true
      · rw [if_pos c1]
        by_cases c2 : (l.getD j z0).2.2.1 = i
        · rw [if_pos c2]
          have hc : okE P (l.getD j z0) = true ∧ (l.getD j z0).2.2.1 = i := ⟨c1, c2⟩
          rw [if_pos hc]
          rcases hb with ⟨h1, h2⟩ | ⟨h1, h2, h3⟩
          · rw [if_pos h1, if_pos h1]; rfl
          · rw [if_neg (show ¬ bIdx P i l j < 0 by omega), if_neg (show ¬ bIdx P i l j < 0 by omega), gd_pos (by omega), gd_pos (by omega)]
            by_cases c3 : bt (l.getD j z0) (l.getD (bIdx P i l j).toNat z0) = true
            · rw [if_pos c3, if_pos c3]; rfl
            · rw [if_neg c3, if_neg c3]; rfl
        · rw [if_neg c2, if_neg (fun h : okE P (l.getD j z0) = true ∧ (l.getD j z0).2.2.1 = i => c2 h.2)]; rfl
      · rw [if_neg c1, if_neg (fun h : okE P (l.getD j z0) = true ∧ (l.getD j z0).2.2.1 = i => c1 h.1)]; rfl
    · simp only
      rw [if_neg (by omega)]
  · simp only
    rw [if_neg (by omega)]

theorem m11_eq : m11 () = some (true, ()) := by
  unfold m11
  rw [m14_eq 4 2 _ (by decide) (by decide) (by simp), m16_eq _ (by simp)]
  rfl
end Go.Proofs.Ytefekolpfklhdaa
end

section
/- What function 19 (slices.Clone(()slipway/api.Found,slipway/api.Found)) computes, by the kernel. -/
open Go Go.Proofs.AM
namespace Go.Proofs.Ytefekolpfklhdaa

noncomputable def m19 (x : (List ((Int × Int) × (Int × (Int × (Int × Int))))) × Unit) : Option (List ((Int × Int) × (Int × (Int × (Int × Int))))) :=
  both (bif (decide ((((List.length x.1) : Nat) : Int) = (0 : Int))) then
      (some ([] : List ((Int × Int) × (Int × (Int × (Int × Int))))))
    else
      (gd ((((List.length ([] : List ((Int × Int) × (Int × (Int × (Int × Int)))))) + (List.length x.1)) * 48) ≤ 140737488355328) (gd (((List.length ([] : List ((Int × Int) × (Int × (Int × (Int × Int)))))) + (List.length x.1)) ≤ 140737488355328) (some (([] : List ((Int × Int) × (Int × (Int × (Int × Int))))) ++ x.1))))) (gd ((((List.length ([] : List ((Int × Int) × (Int × (Int × (Int × Int)))))) + (List.length x.1)) * 48) ≤ 140737488355328) (gd (((List.length ([] : List ((Int × Int) × (Int × (Int × (Int × Int)))))) + (List.length x.1)) ≤ 140737488355328) (some (([] : List ((Int × Int) × (Int × (Int × (Int × Int))))) ++ x.1))))

noncomputable def r19 : PDen [(false, (.sl (.pair (.pair (.int .i64) (.int .i64)) (.pair (.int .i64) (.pair (.int .i64) (.pair (.int .i64) (.int .i64)))))))] → Option (List (K.den (.pair (.pair (.int .i64) (.int .i64)) (.pair (.int .i64) (.pair (.int .i64) (.pair (.int .i64) (.int .i64))))))) := fun x => afunO Try.prog (envOf [] [] [] []) ⟨[], []⟩ Try.f19 [(false, (.sl (.pair (.pair (.int .i64) (.int .i64)) (.pair (.int .i64) (.pair (.int .i64) (.pair (.int .i64) (.int .i64)))))))] 40 (.pair (.pair (.int .i64) (.int .i64)) (.pair (.int .i64) (.pair (.int .i64) (.pair (.int .i64) (.int .i64))))) false x
theorem r19_eq : r19 = m19 := by kernel_rfl

theorem c19 : OS.Sound Try.prog 19 ⟨[(false, (.sl (.pair (.pair (.int .i64) (.int .i64)) (.pair (.int .i64) (.pair (.int .i64) (.pair (.int .i64) (.int .i64)))))))], 40, (.pair (.pair (.int .i64) (.int .i64)) (.pair (.int .i64) (.pair (.int .i64) (.pair (.int .i64) (.int .i64))))), false, m19⟩ := afunO_sound' (envOf_sound (CSs.nil) (HDs.nil) (IDs.nil)) rfl Try.follows (f := 19) (fn := Try.f19) Try.func19 (by kernel_rfl) (by kernel_rfl) r19_eq
end Go.Proofs.Ytefekolpfklhdaa
end

section
/- The newest of what was found does not hang on the order; what is older counts for nothing. -/
namespace Go.Proofs.Ytefekolpfklhdaa
open Go Go.Proofs.AM

theorem bt_iff (a b : Ent) : bt a b = true ↔ (a.2.2.2.1 > b.2.2.2.1 ∨ (a.2.2.2.1 = b.2.2.2.1 ∧ (a.2.2.2.2 < b.2.2.2.2 ∨ (a.2.2.2.2 = b.2.2.2.2 ∧ (a.1.1 < b.1.1 ∨ (a.1.1 = b.1.1 ∧ a.1.2 < b.1.2)))))) := by
  unfold bt newer
  simp only [Bool.or_eq_true, Bool.and_eq_true, Bool.not_eq_true', decide_eq_true_eq, decide_eq_false_iff_not]
  omega

def Has (P p : Int) (e : Ent) : Prop := okE P e = true ∧ e.2.2.1 = p

def Best (P p : Int) (d : List Ent) (o : Option Ent) : Prop :=
  (o = none ∧ ∀ e ∈ d, ¬ Has P p e) ∨ ∃ b ∈ d, o = some b ∧ Has P p b ∧ ∀ e ∈ d, Has P p e → ¬ bt e b = true

theorem best_spec (P p : Int) (l : List Ent) : Best P p l (best P p l) := by
  suffices H : ∀ (l d : List Ent) (o : Option Ent), Best P p d o → Best P p (d ++ l) (l.foldl (bestStep P p) o) by
    exact H l [] none (.inl ⟨rfl, by simp⟩)
  intro l
  induction l with
  | nil => intro d o h; simpa using h
  | cons e l ih =>
    intro d o h
    have hs : Best P p (d ++ [e]) (bestStep P p o e) := by
      unfold bestStep
      by_cases hc : okE P e = true ∧ e.2.2.1 = p
      · rw [if_pos hc]
        rcases h with ⟨rfl, h⟩ | ⟨b, hb, rfl, hP, h⟩
        · refine .inr ⟨e, by simp, rfl, hc, fun x hx hx2 => ?_⟩
          rcases List.mem_append.1 hx with hx | hx
          · exact absurd hx2 (h x hx)
          · obtain rfl : x = e := by simpa using hx
            rw [bt_iff]; omega
        · by_cases hbt : bt e b = true
          · simp only [hbt, if_true]
            refine .inr ⟨e, by simp, rfl, hc, fun x hx hx2 => ?_⟩
            rcases List.mem_append.1 hx with hx | hx
            · have := h x hx hx2
              rw [bt_iff] at this hbt ⊢
              omega
            · obtain rfl : x = e := by simpa using hx
              rw [bt_iff]; omega
          · simp only [hbt]
            refine .inr ⟨b, by simp [hb], rfl, hP, fun x hx hx2 => ?_⟩
            rcases List.mem_append.1 hx with hx | hx
            · exact h x hx hx2
            · obtain rfl : x = e := by simpa using hx
              exact hbt
      · rw [if_neg hc]
        rcases h with ⟨rfl, h⟩ | ⟨b, hb, rfl, hP, h⟩
        · refine .inl ⟨rfl, fun x hx => ?_⟩
          rcases List.mem_append.1 hx with hx | hx
          · exact h x hx
          · obtain rfl : x = e := by simpa using hx
            exact hc
        · refine .inr ⟨b, by simp [hb], rfl, hP, fun x hx hx2 => ?_⟩
          rcases List.mem_append.1 hx with hx | hx
          · exact h x hx hx2
          · obtain rfl : x = e := by simpa using hx
            exact absurd hx2 hc
    have := ih (d ++ [e]) _ hs
    simpa using this

theorem R_same {P : Int} {l l' : List Ent} (h : ∀ e, okE P e = true → (e ∈ l ↔ e ∈ l')) (p : Nat) : R P l p = R P l' p := by
  unfold R
  rcases best_spec P p l with ⟨e1, h1⟩ | ⟨b, hb, e1, hP, h1⟩ <;> rcases best_spec P p l' with ⟨e2, h2⟩ | ⟨b', hb', e2, hP', h2⟩
  · rw [e1, e2]
  · exact absurd hP' (h1 b' ((h b' hP'.1).2 hb'))
  · exact absurd hP (h2 b ((h b hP.1).1 hb))
  · rw [e1, e2]
    have a1 := h1 b' ((h b' hP'.1).2 hb') hP'
    have a2 := h2 b ((h b hP.1).1 hb) hP
    rw [bt_iff] at a1 a2
    exact Prod.ext (by simp only; omega) (by simp only; omega)

theorem R_old {P : Int} {l : List Ent} {f old : Ent} (hf : f ∈ l) (hk : okE P f = true) (hp : old.2.2.1 = f.2.2.1) (hb : bt f old = true) (p : Nat) : R P (l ++ [old]) p = R P l p := by
  unfold R
  rw [best_snoc]
  unfold bestStep
  by_cases hc : okE P old = true ∧ old.2.2.1 = (p : Int)
  · rw [if_pos hc]
    rcases best_spec P p l with ⟨e1, h1⟩ | ⟨b, hb', e1, hP, h1⟩
    · exact absurd ⟨hk, hp ▸ hc.2⟩ (h1 f hf)
    · rw [e1]
      have := h1 f hf ⟨hk, hp ▸ hc.2⟩
      have hn : ¬ bt old b = true := by rw [bt_iff] at this hb ⊢; omega
      simp only [hn]
      rfl
  · rw [if_neg hc]

theorem great_spec (l : List Ent) : ∀ n, n ≤ l.length → 0 ≤ great l n ∧ (∀ e ∈ l.take n, chk e.2 = true → e.2.2.2.2 ≤ great l n) ∧ (great l n = 0 ∨ ∃ e ∈ l.take n, chk e.2 = true ∧ e.2.2.2.2 = great l n)
  | 0, _ => ⟨by simp [great], by simp, .inl rfl⟩
  | n + 1, h => by
    obtain ⟨h1, h2, h3⟩ := great_spec l n (by omega)
    rw [take_snoc l n (by omega) ((0, 0), (0, (0, (0, 0))))]
    unfold great
    generalize he : l.getD n ((0, 0), (0, (0, (0, 0)))) = e
    by_cases hc : chk e.2 = true
    · rw [if_pos hc]
      by_cases hg : e.2.2.2.2 > great l n
      · rw [if_pos hg]
        refine ⟨by omega, fun x hx hx2 => ?_, .inr ⟨e, by simp, hc, rfl⟩⟩
        rcases List.mem_append.1 hx with hx | hx
        · have := h2 x hx hx2; omega
        · obtain rfl : x = e := by simpa using hx
          omega
      · rw [if_neg hg]
        refine ⟨h1, fun x hx hx2 => ?_, ?_⟩
        · rcases List.mem_append.1 hx with hx | hx
          · exact h2 x hx hx2
          · obtain rfl : x = e := by simpa using hx
            omega
        · rcases h3 with h3 | ⟨x, hx, h3⟩
          · exact .inl h3
          · exact .inr ⟨x, by simp [hx], h3⟩
    · rw [if_neg hc]
      refine ⟨h1, fun x hx hx2 => ?_, ?_⟩
      · rcases List.mem_append.1 hx with hx | hx
        · exact h2 x hx hx2
        · obtain rfl : x = e := by simpa using hx
          exact absurd hx2 hc
      · rcases h3 with h3 | ⟨x, hx, h3⟩
        · exact .inl h3
        · exact .inr ⟨x, by simp [hx], h3⟩

theorem great_same {l l' : List Ent} (h : ∀ e, e ∈ l ↔ e ∈ l') : great l l.length = great l' l'.length := by
  obtain ⟨a1, a2, a3⟩ := great_spec l l.length (Nat.le_refl _)
  obtain ⟨b1, b2, b3⟩ := great_spec l' l'.length (Nat.le_refl _)
  rw [List.take_length] at a2 a3 b2 b3
  have le1 : great l l.length ≤ great l' l'.length := by
    rcases a3 with a3 | ⟨e, he, hc, a3⟩
    · omega
    · rw [← a3]; exact b2 e ((h e).1 he) hc
  have le2 : great l' l'.length ≤ great l l.length := by
    rcases b3 with b3 | ⟨e, he, hc, b3⟩
    · omega
    · rw [← b3]; exact a2 e ((h e).2 he) hc
  omega

theorem m19_eq (l : List Ent) (h : l.length ≤ 1000000) : m19 (l, ()) = some l := by
  unfold m19
  simp only [Bool.cond_eq_ite, decide_eq_true_eq]
  have h1 : (List.length ([] : List Ent) + l.length) * 48 ≤ 140737488355328 := by simp; omega
  have h2 : List.length ([] : List Ent) + l.length ≤ 140737488355328 := by simp; omega
  rw [gd_pos h1, gd_pos h2]
  by_cases h0 : ((l.length : Nat) : Int) = 0
  · rw [if_pos h0]
    obtain rfl : l = [] := List.length_eq_zero_iff.1 (by omega)
    simp [both]
  · rw [if_neg h0]
    simp [both]
end Go.Proofs.Ytefekolpfklhdaa
end
