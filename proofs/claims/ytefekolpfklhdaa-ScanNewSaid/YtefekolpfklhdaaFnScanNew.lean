/- What the functions of this claim compute, each shown by the kernel. No condition. -/
import Derived.Test.YtefekolpfklhdaaCbase
set_option maxRecDepth 2000
set_option linter.unusedVariables false
set_option linter.unusedSimpArgs false
open Go Go.Proofs.AM
namespace Go.Proofs.Ytefekolpfklhdaa

/- Function 88: math/bits.Mul32. -/
noncomputable def m88 (x : Int × Int × Unit) : Option (Int × (Int × Unit)) :=
  some ((Go.IntKind.wrap .u32 (ishr .u64 (Go.IntKind.wrap .u64 ((Go.IntKind.wrap .u64 x.1) * (Go.IntKind.wrap .u64 x.2.1))) (32 : Int))), ((Go.IntKind.wrap .u32 (Go.IntKind.wrap .u64 ((Go.IntKind.wrap .u64 x.1) * (Go.IntKind.wrap .u64 x.2.1)))), ()))

noncomputable def r88 : PDen [(false, (.int .u32)), (false, (.int .u32))] → Option (PDen [(false, (.int .u32)), (false, (.int .u32))]) := fun x => afun Try.prog (envOf [] [] [] []) ⟨[], []⟩ Try.f88 [(false, (.int .u32)), (false, (.int .u32))] [(false, (.int .u32)), (false, (.int .u32))] false x
theorem r88_eq : r88 = m88 := by kernel_rfl

theorem c88 : CS.Sound Try.prog 88 ⟨[(false, (.int .u32)), (false, (.int .u32))], [(false, (.int .u32)), (false, (.int .u32))], false, m88⟩ := afun_sound' (envOf_sound (CSs.nil) (HDs.nil) (IDs.nil)) rfl Try.follows (f := 88) (fn := Try.f88) Try.func88 (by kernel_rfl) (by kernel_rfl) r88_eq

/- Function 89: math/bits.Mul64. -/
noncomputable def m89 (x : Int × Int × Unit) : Option (Int × (Int × Unit)) :=
  some ((Go.IntKind.wrap .u64 ((Go.IntKind.wrap .u64 ((Go.IntKind.wrap .u64 ((ishr .u64 x.1 (32 : Int)) * (ishr .u64 x.2.1 (32 : Int)))) + (ishr .u64 (Go.IntKind.wrap .u64 ((Go.IntKind.wrap .u64 ((ishr .u64 x.1 (32 : Int)) * (iand .u64 x.2.1 (4294967295 : Int)))) + (ishr .u64 (Go.IntKind.wrap .u64 ((iand .u64 x.1 (4294967295 : Int)) * (iand .u64 x.2.1 (4294967295 : Int)))) (32 : Int)))) (32 : Int)))) + (ishr .u64 (Go.IntKind.wrap .u64 ((iand .u64 (Go.IntKind.wrap .u64 ((Go.IntKind.wrap .u64 ((ishr .u64 x.1 (32 : Int)) * (iand .u64 x.2.1 (4294967295 : Int)))) + (ishr .u64 (Go.IntKind.wrap .u64 ((iand .u64 x.1 (4294967295 : Int)) * (iand .u64 x.2.1 (4294967295 : Int)))) (32 : Int)))) (4294967295 : Int)) + (Go.IntKind.wrap .u64 ((iand .u64 x.1 (4294967295 : Int)) * (ishr .u64 x.2.1 (32 : Int)))))) (32 : Int)))), ((Go.IntKind.wrap .u64 (x.1 * x.2.1)), ()))

noncomputable def r89 : PDen [(false, (.int .u64)), (false, (.int .u64))] → Option (PDen [(false, (.int .u64)), (false, (.int .u64))]) := fun x => afun Try.prog (envOf [] [] [] []) ⟨[], []⟩ Try.f89 [(false, (.int .u64)), (false, (.int .u64))] [(false, (.int .u64)), (false, (.int .u64))] false x
theorem r89_eq : r89 = m89 := by kernel_rfl

theorem c89 : CS.Sound Try.prog 89 ⟨[(false, (.int .u64)), (false, (.int .u64))], [(false, (.int .u64)), (false, (.int .u64))], false, m89⟩ := afun_sound' (envOf_sound (CSs.nil) (HDs.nil) (IDs.nil)) rfl Try.follows (f := 89) (fn := Try.f89) Try.func89 (by kernel_rfl) (by kernel_rfl) r89_eq

/- Function 70: math/bits.Mul. -/
noncomputable def m70 (x : Int × Int × Unit) : Option (Int × (Int × Unit)) :=
  Option.bind (m89 (x.1, (x.2.1, ()))) fun (y1 : (Int × (Int × Unit))) =>
  some (y1.1, (y1.2.1, ()))

noncomputable def r70 : PDen [(false, (.int .u64)), (false, (.int .u64))] → Option (PDen [(false, (.int .u64)), (false, (.int .u64))]) := fun x => afun Try.prog (envOf [(88, ⟨[(false, (.int .u32)), (false, (.int .u32))], [(false, (.int .u32)), (false, (.int .u32))], false, m88⟩), (89, ⟨[(false, (.int .u64)), (false, (.int .u64))], [(false, (.int .u64)), (false, (.int .u64))], false, m89⟩)] [] [] []) ⟨[], []⟩ Try.f70 [(false, (.int .u64)), (false, (.int .u64))] [(false, (.int .u64)), (false, (.int .u64))] false x
theorem r70_eq : r70 = m70 := by kernel_rfl

theorem c70 : CS.Sound Try.prog 70 ⟨[(false, (.int .u64)), (false, (.int .u64))], [(false, (.int .u64)), (false, (.int .u64))], false, m70⟩ := afun_sound' (envOf_sound (CSs.cons c88 (CSs.cons c89 (CSs.nil))) (HDs.nil) (IDs.nil)) rfl Try.follows (f := 70) (fn := Try.f70) Try.func70 (by kernel_rfl) (by kernel_rfl) r70_eq

/- Function 66: slices.Repeat[[]int,int]. -/
noncomputable def m66 (x : (List Int) × Int × Unit) : Option (List Int) :=
  bif (decide (x.2.1 < (0 : Int))) then
    (none)
  else
    (Option.bind (m70 ((Go.IntKind.wrap .u64 (((List.length x.1) : Nat) : Int)), ((Go.IntKind.wrap .u64 x.2.1), ()))) fun (y1 : (Int × (Int × Unit))) =>
    bif (decide (y1.1 > (0 : Int))) then
      (none)
    else
      (bif (decide (y1.2.1 > (9223372036854775807 : Int))) then
        (none)
      else
        (gd ((0 : Int) ≤ (Go.IntKind.wrap .i64 y1.2.1)) (gd ((Go.IntKind.wrap .i64 y1.2.1) ≤ (Go.IntKind.wrap .i64 y1.2.1)) (gd (((Go.IntKind.wrap .i64 y1.2.1) * (8 : Int)) ≤ (140737488355328 : Int)) (Option.bind (loopM (X := (Int × (List Int))) (E := (List Int)) (fun (x2 : (Int × (List Int))) =>
                  bif (decide (x2.1 < (((List.length x2.2) : Nat) : Int))) then
                    (gd ((0 : Int) ≤ x2.1) (gd (x2.1 ≤ (((List.length x2.2) : Nat) : Int)) (gd ((((List.length x2.2) : Nat) : Int) ≤ (((List.length x2.2) : Nat) : Int)) (gd ((0 : Int) ≤ x2.1) (gd (x2.1 ≤ (((List.length x2.2) : Nat) : Int)) (some (Sum.inl ((Go.IntKind.wrap .i64 (x2.1 + (((min (List.length (List.take ((Int.toNat x2.1) - (Int.toNat (0 : Int))) (List.drop (Int.toNat (0 : Int)) x2.2))) ((Int.toNat (((List.length x2.2) : Nat) : Int)) - (Int.toNat x2.1))) : Nat) : Int))), (((List.take (Int.toNat x2.1) x2.2) ++ (List.take ((Int.toNat (((List.length x2.2) : Nat) : Int)) - (Int.toNat x2.1)) (List.take ((Int.toNat x2.1) - (Int.toNat (0 : Int))) (List.drop (Int.toNat (0 : Int)) x2.2)))) ++ (List.drop ((Int.toNat x2.1) + (min (List.length (List.take ((Int.toNat x2.1) - (Int.toNat (0 : Int))) (List.drop (Int.toNat (0 : Int)) x2.2))) ((Int.toNat (((List.length x2.2) : Nat) : Int)) - (Int.toNat x2.1)))) x2.2))))))))))
                  else
                    (some (Sum.inr x2.2))) ((((min (List.length x.1) (List.length (List.replicate (Int.toNat (Go.IntKind.wrap .i64 y1.2.1)) (0 : Int)))) : Nat) : Int), ((List.take (List.length (List.replicate (Int.toNat (Go.IntKind.wrap .i64 y1.2.1)) (0 : Int))) x.1) ++ (List.drop (List.length x.1) (List.replicate (Int.toNat (Go.IntKind.wrap .i64 y1.2.1)) (0 : Int)))))) fun (y2 : (List Int)) =>
              some y2))))))

noncomputable def r66 : PDen [(false, (.sl (.int .i64))), (false, (.int .i64))] → Option (List (K.den (.int .i64))) := fun x => afunO Try.prog (envOf [(70, ⟨[(false, (.int .u64)), (false, (.int .u64))], [(false, (.int .u64)), (false, (.int .u64))], false, m70⟩)] [] [] []) ⟨[(0, ⟨[.slot 8 (.d false (.int .i64) true), .vec 0 3 (.int .i64) true], [], [(some 0, [.vec 0 3 (.int .i64) true])], none⟩)], []⟩ Try.f66 [(false, (.sl (.int .i64))), (false, (.int .i64))] 3 (.int .i64) false x
theorem r66_eq : r66 = m66 := by kernel_rfl

theorem c66 : OS.Sound Try.prog 66 ⟨[(false, (.sl (.int .i64))), (false, (.int .i64))], 3, (.int .i64), false, m66⟩ := afunO_sound' (envOf_sound (CSs.cons c70 (CSs.nil)) (HDs.nil) (IDs.nil)) rfl Try.follows (f := 66) (fn := Try.f66) Try.func66 (by kernel_rfl) (by kernel_rfl) r66_eq

/- Function 38: slipway/plan.New. -/
noncomputable def m38 (x : Int × Int × Int × Unit) : Option ((Int × (Int × (Int × ((List Int) × ((List Bool) × ((Int × (Int × Int)) × (List (Int × (List Int))))))))) × (Int × Unit)) :=
  bif (decide (x.1 < (4 : Int))) then
    (some (((0 : Int), ((0 : Int), ((0 : Int), (([] : List Int), (([] : List Bool), (((0 : Int), ((0 : Int), (0 : Int))), ([] : List (Int × (List Int))))))))), ((1 : Int), ())))
  else
    (bif (decide (x.1 > (32 : Int))) then
      (some (((0 : Int), ((0 : Int), ((0 : Int), (([] : List Int), (([] : List Bool), (((0 : Int), ((0 : Int), (0 : Int))), ([] : List (Int × (List Int))))))))), ((1 : Int), ())))
    else
      (bif (decide (x.2.1 < (1 : Int))) then
        (some (((0 : Int), ((0 : Int), ((0 : Int), (([] : List Int), (([] : List Bool), (((0 : Int), ((0 : Int), (0 : Int))), ([] : List (Int × (List Int))))))))), ((1 : Int), ())))
      else
        (bif (decide (x.2.1 > (256 : Int))) then
          (some (((0 : Int), ((0 : Int), ((0 : Int), (([] : List Int), (([] : List Bool), (((0 : Int), ((0 : Int), (0 : Int))), ([] : List (Int × (List Int))))))))), ((1 : Int), ())))
        else
          (bif (decide (x.2.2.1 < (1 : Int))) then
            (some (((0 : Int), ((0 : Int), ((0 : Int), (([] : List Int), (([] : List Bool), (((0 : Int), ((0 : Int), (0 : Int))), ([] : List (Int × (List Int))))))))), ((1 : Int), ())))
          else
            (bif (decide (x.2.2.1 > (8 : Int))) then
              (some (((0 : Int), ((0 : Int), ((0 : Int), (([] : List Int), (([] : List Bool), (((0 : Int), ((0 : Int), (0 : Int))), ([] : List (Int × (List Int))))))))), ((1 : Int), ())))
            else
              (Option.bind (m66 (((-1 : Int) :: ([] : List Int)), (x.2.1, ()))) fun (y1 : (List Int)) =>
              gd ((0 : Int) ≤ (Go.IntKind.wrap .i64 (x.2.1 * x.1))) (gd ((Go.IntKind.wrap .i64 (x.2.1 * x.1)) ≤ (Go.IntKind.wrap .i64 (x.2.1 * x.1))) (gd (((Go.IntKind.wrap .i64 (x.2.1 * x.1)) * (1 : Int)) ≤ (140737488355328 : Int)) (some ((x.1, (x.2.1, (x.2.2.1, (y1, ((List.replicate (Int.toNat (Go.IntKind.wrap .i64 (x.2.1 * x.1))) false), (((-1 : Int), ((0 : Int), (0 : Int))), ([] : List (Int × (List Int))))))))), ((0 : Int), ())))))))))))

noncomputable def r38 : PDen [(false, (.int .i64)), (false, (.int .i64)), (false, (.int .i64))] → Option (PDen [(true, (.pair (.int .i64) (.pair (.int .i64) (.pair (.int .i64) (.pair (.sl (.int .i64)) (.pair (.sl .bool) (.pair (.pair (.int .i64) (.pair (.int .i64) (.int .i64))) (.sl (.pair (.int .i64) (.sl (.int .i64))))))))))), (false, (.int .i64))]) := fun x => afun Try.prog (envOf [] [(66, OS.hd ⟨[(false, (.sl (.int .i64))), (false, (.int .i64))], 3, (.int .i64), false, m66⟩)] [40] []) ⟨[], []⟩ Try.f38 [(false, (.int .i64)), (false, (.int .i64)), (false, (.int .i64))] [(true, (.pair (.int .i64) (.pair (.int .i64) (.pair (.int .i64) (.pair (.sl (.int .i64)) (.pair (.sl .bool) (.pair (.pair (.int .i64) (.pair (.int .i64) (.int .i64))) (.sl (.pair (.int .i64) (.sl (.int .i64))))))))))), (false, (.int .i64))] false x
theorem r38_eq : r38 = m38 := by kernel_rfl

theorem c38 : CS.Sound Try.prog 38 ⟨[(false, (.int .i64)), (false, (.int .i64)), (false, (.int .i64))], [(true, (.pair (.int .i64) (.pair (.int .i64) (.pair (.int .i64) (.pair (.sl (.int .i64)) (.pair (.sl .bool) (.pair (.pair (.int .i64) (.pair (.int .i64) (.int .i64))) (.sl (.pair (.int .i64) (.sl (.int .i64))))))))))), (false, (.int .i64))], false, m38⟩ := afun_sound' (envOf_sound (CSs.nil) (HDs.cons (OS.Sound.hd c66) (HDs.nil)) (IDs.nil)) rfl Try.follows (f := 38) (fn := Try.f38) Try.func38 (by kernel_rfl) (by kernel_rfl) r38_eq

/- Function 69: slipway/page.Newer. -/
noncomputable def m69 (x : (Int × (Int × (Int × Int))) × (Int × (Int × (Int × Int))) × Unit) : Option (Bool × Unit) :=
  bif (!(decide (x.1.2.2.1 = x.2.1.2.2.1))) then
    (some ((decide (x.1.2.2.1 > x.2.1.2.2.1)), ()))
  else
    (some ((decide (x.1.2.2.2 < x.2.1.2.2.2)), ()))

noncomputable def r69 : PDen [(true, (.pair (.int .i64) (.pair (.int .i64) (.pair (.int .i64) (.int .i64))))), (true, (.pair (.int .i64) (.pair (.int .i64) (.pair (.int .i64) (.int .i64)))))] → Option (PDen [(false, .bool)]) := fun x => afun Try.prog (envOf [] [] [] []) ⟨[], []⟩ Try.f69 [(true, (.pair (.int .i64) (.pair (.int .i64) (.pair (.int .i64) (.int .i64))))), (true, (.pair (.int .i64) (.pair (.int .i64) (.pair (.int .i64) (.int .i64)))))] [(false, .bool)] false x
theorem r69_eq : r69 = m69 := by kernel_rfl

theorem c69 : CS.Sound Try.prog 69 ⟨[(true, (.pair (.int .i64) (.pair (.int .i64) (.pair (.int .i64) (.int .i64))))), (true, (.pair (.int .i64) (.pair (.int .i64) (.pair (.int .i64) (.int .i64)))))], [(false, .bool)], false, m69⟩ := afun_sound' (envOf_sound (CSs.nil) (HDs.nil) (IDs.nil)) rfl Try.follows (f := 69) (fn := Try.f69) Try.func69 (by kernel_rfl) (by kernel_rfl) r69_eq

/- Function 40: slipway/scan.before. -/
noncomputable def m40 (x : ((Int × Int) × (Int × (Int × (Int × Int)))) × ((Int × Int) × (Int × (Int × (Int × Int)))) × Unit) : Option (Bool × Unit) :=
  Option.bind (m69 (x.1.2, (x.2.1.2, ()))) fun (y1 : (Bool × Unit)) =>
  bif y1.1 then
    (some (true, ()))
  else
    (Option.bind (m69 (x.2.1.2, (x.1.2, ()))) fun (y2 : (Bool × Unit)) =>
    bif y2.1 then
      (some (false, ()))
    else
      (bif (!(decide (x.1.1.1 = x.2.1.1.1))) then
        (some ((decide (x.1.1.1 < x.2.1.1.1)), ()))
      else
        (some ((decide (x.1.1.2 < x.2.1.1.2)), ()))))

noncomputable def r40 : PDen [(true, (.pair (.pair (.int .i64) (.int .i64)) (.pair (.int .i64) (.pair (.int .i64) (.pair (.int .i64) (.int .i64)))))), (true, (.pair (.pair (.int .i64) (.int .i64)) (.pair (.int .i64) (.pair (.int .i64) (.pair (.int .i64) (.int .i64))))))] → Option (PDen [(false, .bool)]) := fun x => afun Try.prog (envOf [(69, ⟨[(true, (.pair (.int .i64) (.pair (.int .i64) (.pair (.int .i64) (.int .i64))))), (true, (.pair (.int .i64) (.pair (.int .i64) (.pair (.int .i64) (.int .i64)))))], [(false, .bool)], false, m69⟩)] [] [] []) ⟨[], []⟩ Try.f40 [(true, (.pair (.pair (.int .i64) (.int .i64)) (.pair (.int .i64) (.pair (.int .i64) (.pair (.int .i64) (.int .i64)))))), (true, (.pair (.pair (.int .i64) (.int .i64)) (.pair (.int .i64) (.pair (.int .i64) (.pair (.int .i64) (.int .i64))))))] [(false, .bool)] false x
theorem r40_eq : r40 = m40 := by kernel_rfl

theorem c40 : CS.Sound Try.prog 40 ⟨[(true, (.pair (.pair (.int .i64) (.int .i64)) (.pair (.int .i64) (.pair (.int .i64) (.pair (.int .i64) (.int .i64)))))), (true, (.pair (.pair (.int .i64) (.int .i64)) (.pair (.int .i64) (.pair (.int .i64) (.pair (.int .i64) (.int .i64))))))], [(false, .bool)], false, m40⟩ := afun_sound' (envOf_sound (CSs.cons c69 (CSs.nil)) (HDs.nil) (IDs.nil)) rfl Try.follows (f := 40) (fn := Try.f40) Try.func40 (by kernel_rfl) (by kernel_rfl) r40_eq

/- Function 42: slipway/scan.none. -/
noncomputable def m42 (x : Unit) : Option ((Int × Int) × Unit) :=
  some (((-1 : Int), (0 : Int)), ())

noncomputable def r42 : PDen [] → Option (PDen [(true, (.pair (.int .i64) (.int .i64)))]) := fun x => afun Try.prog (envOf [] [] [] []) ⟨[], []⟩ Try.f42 [] [(true, (.pair (.int .i64) (.int .i64)))] false x
theorem r42_eq : r42 = m42 := by kernel_rfl

theorem c42 : CS.Sound Try.prog 42 ⟨[], [(true, (.pair (.int .i64) (.int .i64)))], false, m42⟩ := afun_sound' (envOf_sound (CSs.nil) (HDs.nil) (IDs.nil)) rfl Try.follows (f := 42) (fn := Try.f42) Try.func42 (by kernel_rfl) (by kernel_rfl) r42_eq

/- Function 46: slipway/page.Check. -/
noncomputable def m46 (x : (Int × (Int × (Int × Int))) × Unit) : Option (Int × Unit) :=
  bif (!(decide (x.1.1 = (1 : Int)))) then
    (bif (!(decide (x.1.1 = (2 : Int)))) then
      (bif (!(decide (x.1.1 = (3 : Int)))) then
        (some ((30 : Int), ()))
      else
        (bif (decide (x.1.2.2.2 < x.1.2.2.1)) then
          (some ((30 : Int), ()))
        else
          (bif (decide (x.1.2.2.2 > (1152921504606846976 : Int))) then
            (some ((30 : Int), ()))
          else
            (bif (!(decide (x.1.1 = (1 : Int)))) then
              (bif (!(decide (x.1.2.2.2 = x.1.2.2.1))) then
                (some ((30 : Int), ()))
              else
                (bif (decide (x.1.2.1 < (0 : Int))) then
                  (some ((30 : Int), ()))
                else
                  (bif (decide (x.1.2.1 ≥ (1048576 : Int))) then
                    (some ((30 : Int), ()))
                  else
                    (bif (decide (x.1.2.2.1 < (1 : Int))) then
                      (some ((30 : Int), ()))
                    else
                      (bif (decide (x.1.2.2.1 > (1152921504606846976 : Int))) then
                        (some ((30 : Int), ()))
                      else
                        (some ((0 : Int), ())))))))
            else
              (bif (decide (x.1.2.1 < (0 : Int))) then
                (some ((30 : Int), ()))
              else
                (bif (decide (x.1.2.1 ≥ (1048576 : Int))) then
                  (some ((30 : Int), ()))
                else
                  (bif (decide (x.1.2.2.1 < (1 : Int))) then
                    (some ((30 : Int), ()))
                  else
                    (bif (decide (x.1.2.2.1 > (1152921504606846976 : Int))) then
                      (some ((30 : Int), ()))
                    else
                      (some ((0 : Int), ()))))))))))
    else
      (bif (decide (x.1.2.2.2 < x.1.2.2.1)) then
        (some ((30 : Int), ()))
      else
        (bif (decide (x.1.2.2.2 > (1152921504606846976 : Int))) then
          (some ((30 : Int), ()))
        else
          (bif (!(decide (x.1.1 = (1 : Int)))) then
            (bif (!(decide (x.1.2.2.2 = x.1.2.2.1))) then
              (some ((30 : Int), ()))
            else
              (bif (decide (x.1.2.1 < (0 : Int))) then
                (some ((30 : Int), ()))
              else
                (bif (decide (x.1.2.1 ≥ (1048576 : Int))) then
                  (some ((30 : Int), ()))
                else
                  (bif (decide (x.1.2.2.1 < (1 : Int))) then
                    (some ((30 : Int), ()))
                  else
                    (bif (decide (x.1.2.2.1 > (1152921504606846976 : Int))) then
                      (some ((30 : Int), ()))
                    else
                      (some ((0 : Int), ())))))))
          else
            (bif (decide (x.1.2.1 < (0 : Int))) then
              (some ((30 : Int), ()))
            else
              (bif (decide (x.1.2.1 ≥ (1048576 : Int))) then
                (some ((30 : Int), ()))
              else
                (bif (decide (x.1.2.2.1 < (1 : Int))) then
                  (some ((30 : Int), ()))
                else
                  (bif (decide (x.1.2.2.1 > (1152921504606846976 : Int))) then
                    (some ((30 : Int), ()))
                  else
                    (some ((0 : Int), ()))))))))))
  else
    (bif (decide (x.1.2.2.2 < x.1.2.2.1)) then
      (some ((30 : Int), ()))
    else
      (bif (decide (x.1.2.2.2 > (1152921504606846976 : Int))) then
        (some ((30 : Int), ()))
      else
        (bif (!(decide (x.1.1 = (1 : Int)))) then
          (bif (!(decide (x.1.2.2.2 = x.1.2.2.1))) then
            (some ((30 : Int), ()))
          else
            (bif (decide (x.1.2.1 < (0 : Int))) then
              (some ((30 : Int), ()))
            else
              (bif (decide (x.1.2.1 ≥ (1048576 : Int))) then
                (some ((30 : Int), ()))
              else
                (bif (decide (x.1.2.2.1 < (1 : Int))) then
                  (some ((30 : Int), ()))
                else
                  (bif (decide (x.1.2.2.1 > (1152921504606846976 : Int))) then
                    (some ((30 : Int), ()))
                  else
                    (some ((0 : Int), ())))))))
        else
          (bif (decide (x.1.2.1 < (0 : Int))) then
            (some ((30 : Int), ()))
          else
            (bif (decide (x.1.2.1 ≥ (1048576 : Int))) then
              (some ((30 : Int), ()))
            else
              (bif (decide (x.1.2.2.1 < (1 : Int))) then
                (some ((30 : Int), ()))
              else
                (bif (decide (x.1.2.2.1 > (1152921504606846976 : Int))) then
                  (some ((30 : Int), ()))
                else
                  (some ((0 : Int), ())))))))))

noncomputable def r46 : PDen [(true, (.pair (.int .i64) (.pair (.int .i64) (.pair (.int .i64) (.int .i64)))))] → Option (PDen [(false, (.int .i64))]) := fun x => afun Try.prog (envOf [] [] [] []) ⟨[], []⟩ Try.f46 [(true, (.pair (.int .i64) (.pair (.int .i64) (.pair (.int .i64) (.int .i64)))))] [(false, (.int .i64))] false x
theorem r46_eq : r46 = m46 := by kernel_rfl

theorem c46 : CS.Sound Try.prog 46 ⟨[(true, (.pair (.int .i64) (.pair (.int .i64) (.pair (.int .i64) (.int .i64)))))], [(false, (.int .i64))], false, m46⟩ := afun_sound' (envOf_sound (CSs.nil) (HDs.nil) (IDs.nil)) rfl Try.follows (f := 46) (fn := Try.f46) Try.func46 (by kernel_rfl) (by kernel_rfl) r46_eq

/- Function 48: slipway/scan.inRange. -/
noncomputable def m48 (x : Int × Int × Int × Unit) : Option (Bool × Unit) :=
  bif (decide (x.1 ≥ x.2.1)) then
    (some ((decide (x.1 ≤ x.2.2.1)), ()))
  else
    (some (false, ()))

noncomputable def r48 : PDen [(false, (.int .i64)), (false, (.int .i64)), (false, (.int .i64))] → Option (PDen [(false, .bool)]) := fun x => afun Try.prog (envOf [] [] [] []) ⟨[], []⟩ Try.f48 [(false, (.int .i64)), (false, (.int .i64)), (false, (.int .i64))] [(false, .bool)] false x
theorem r48_eq : r48 = m48 := by kernel_rfl

theorem c48 : CS.Sound Try.prog 48 ⟨[(false, (.int .i64)), (false, (.int .i64)), (false, (.int .i64))], [(false, .bool)], false, m48⟩ := afun_sound' (envOf_sound (CSs.nil) (HDs.nil) (IDs.nil)) rfl Try.follows (f := 48) (fn := Try.f48) Try.func48 (by kernel_rfl) (by kernel_rfl) r48_eq

/- Function 68: slipway/scan.counts. -/
noncomputable def m68 (x : Int × ((Int × Int) × (Int × (Int × (Int × Int)))) × Unit) : Option (Bool × Unit) :=
  Option.bind (m46 (x.2.1.2, ())) fun (y1 : (Int × Unit)) =>
  bif (decide (y1.1 = (0 : Int))) then
    (bif (!(decide (x.2.1.2.1 = (3 : Int)))) then
      (Option.bind (m48 (x.2.1.1.1, ((0 : Int), ((255 : Int), ())))) fun (y2 : (Bool × Unit)) =>
      bif y2.1 then
        (Option.bind (m48 (x.2.1.1.2, ((0 : Int), ((Go.IntKind.wrap .i64 (x.1 - (1 : Int))), ())))) fun (y3 : (Bool × Unit)) =>
        some (y3.1, ()))
      else
        (some (false, ())))
    else
      (some (false, ())))
  else
    (some (false, ()))

noncomputable def r68 : PDen [(false, (.int .i64)), (true, (.pair (.pair (.int .i64) (.int .i64)) (.pair (.int .i64) (.pair (.int .i64) (.pair (.int .i64) (.int .i64))))))] → Option (PDen [(false, .bool)]) := fun x => afun Try.prog (envOf [(46, ⟨[(true, (.pair (.int .i64) (.pair (.int .i64) (.pair (.int .i64) (.int .i64)))))], [(false, (.int .i64))], false, m46⟩), (48, ⟨[(false, (.int .i64)), (false, (.int .i64)), (false, (.int .i64))], [(false, .bool)], false, m48⟩)] [] [] []) ⟨[], []⟩ Try.f68 [(false, (.int .i64)), (true, (.pair (.pair (.int .i64) (.int .i64)) (.pair (.int .i64) (.pair (.int .i64) (.pair (.int .i64) (.int .i64))))))] [(false, .bool)] false x
theorem r68_eq : r68 = m68 := by kernel_rfl

theorem c68 : CS.Sound Try.prog 68 ⟨[(false, (.int .i64)), (true, (.pair (.pair (.int .i64) (.int .i64)) (.pair (.int .i64) (.pair (.int .i64) (.pair (.int .i64) (.int .i64))))))], [(false, .bool)], false, m68⟩ := afun_sound' (envOf_sound (CSs.cons c46 (CSs.cons c48 (CSs.nil))) (HDs.nil) (IDs.nil)) rfl Try.follows (f := 68) (fn := Try.f68) Try.func68 (by kernel_rfl) (by kernel_rfl) r68_eq

/- Function 41: slices.Repeat[[]slipway/api.Place,slipway/api.Place]. -/
noncomputable def m41 (x : (List (Int × Int)) × Int × Unit) : Option (List (Int × Int)) :=
  bif (decide (x.2.1 < (0 : Int))) then
    (none)
  else
    (Option.bind (m70 ((Go.IntKind.wrap .u64 (((List.length x.1) : Nat) : Int)), ((Go.IntKind.wrap .u64 x.2.1), ()))) fun (y1 : (Int × (Int × Unit))) =>
    bif (decide (y1.1 > (0 : Int))) then
      (none)
    else
      (bif (decide (y1.2.1 > (9223372036854775807 : Int))) then
        (none)
      else
        (gd ((0 : Int) ≤ (Go.IntKind.wrap .i64 y1.2.1)) (gd ((Go.IntKind.wrap .i64 y1.2.1) ≤ (Go.IntKind.wrap .i64 y1.2.1)) (gd (((Go.IntKind.wrap .i64 y1.2.1) * (16 : Int)) ≤ (140737488355328 : Int)) (Option.bind (loopM (X := (Int × (List (Int × Int)))) (E := (List (Int × Int))) (fun (x2 : (Int × (List (Int × Int)))) =>
                  bif (decide (x2.1 < (((List.length x2.2) : Nat) : Int))) then
                    (gd ((0 : Int) ≤ x2.1) (gd (x2.1 ≤ (((List.length x2.2) : Nat) : Int)) (gd ((((List.length x2.2) : Nat) : Int) ≤ (((List.length x2.2) : Nat) : Int)) (gd ((0 : Int) ≤ x2.1) (gd (x2.1 ≤ (((List.length x2.2) : Nat) : Int)) (some (Sum.inl ((Go.IntKind.wrap .i64 (x2.1 + (((min (List.length (List.take ((Int.toNat x2.1) - (Int.toNat (0 : Int))) (List.drop (Int.toNat (0 : Int)) x2.2))) ((Int.toNat (((List.length x2.2) : Nat) : Int)) - (Int.toNat x2.1))) : Nat) : Int))), (((List.take (Int.toNat x2.1) x2.2) ++ (List.take ((Int.toNat (((List.length x2.2) : Nat) : Int)) - (Int.toNat x2.1)) (List.take ((Int.toNat x2.1) - (Int.toNat (0 : Int))) (List.drop (Int.toNat (0 : Int)) x2.2)))) ++ (List.drop ((Int.toNat x2.1) + (min (List.length (List.take ((Int.toNat x2.1) - (Int.toNat (0 : Int))) (List.drop (Int.toNat (0 : Int)) x2.2))) ((Int.toNat (((List.length x2.2) : Nat) : Int)) - (Int.toNat x2.1)))) x2.2))))))))))
                  else
                    (some (Sum.inr x2.2))) ((((min (List.length x.1) (List.length (List.replicate (Int.toNat (Go.IntKind.wrap .i64 y1.2.1)) ((0 : Int), (0 : Int))))) : Nat) : Int), ((List.take (List.length (List.replicate (Int.toNat (Go.IntKind.wrap .i64 y1.2.1)) ((0 : Int), (0 : Int)))) x.1) ++ (List.drop (List.length x.1) (List.replicate (Int.toNat (Go.IntKind.wrap .i64 y1.2.1)) ((0 : Int), (0 : Int))))))) fun (y2 : (List (Int × Int))) =>
              some y2))))))

noncomputable def r41 : PDen [(false, (.sl (.pair (.int .i64) (.int .i64)))), (false, (.int .i64))] → Option (List (K.den (.pair (.int .i64) (.int .i64)))) := fun x => afunO Try.prog (envOf [(70, ⟨[(false, (.int .u64)), (false, (.int .u64))], [(false, (.int .u64)), (false, (.int .u64))], false, m70⟩)] [] [] []) ⟨[(0, ⟨[.slot 8 (.d false (.int .i64) true), .vec 0 34 (.pair (.int .i64) (.int .i64)) true], [], [(some 0, [.vec 0 34 (.pair (.int .i64) (.int .i64)) true])], none⟩)], []⟩ Try.f41 [(false, (.sl (.pair (.int .i64) (.int .i64)))), (false, (.int .i64))] 34 (.pair (.int .i64) (.int .i64)) false x
theorem r41_eq : r41 = m41 := by kernel_rfl

theorem c41 : OS.Sound Try.prog 41 ⟨[(false, (.sl (.pair (.int .i64) (.int .i64)))), (false, (.int .i64))], 34, (.pair (.int .i64) (.int .i64)), false, m41⟩ := afunO_sound' (envOf_sound (CSs.cons c70 (CSs.nil)) (HDs.nil) (IDs.nil)) rfl Try.follows (f := 41) (fn := Try.f41) Try.func41 (by kernel_rfl) (by kernel_rfl) r41_eq

/- Function 14: slipway/scan.Newest. -/
noncomputable def m14 (x : Int × Int × (List ((Int × Int) × (Int × (Int × (Int × Int))))) × Unit) : Option ((List (Int × Int)) × Unit) :=
  Option.bind (m38 (x.1, (x.2.1, ((1 : Int), ())))) fun (y1 : ((Int × (Int × (Int × ((List Int) × ((List Bool) × ((Int × (Int × Int)) × (List (Int × (List Int))))))))) × (Int × Unit))) =>
  bif (!(decide (y1.2.1 = (0 : Int)))) then
    (some (([] : List (Int × Int)), ()))
  else
    (Option.bind (loopM (X := (Int × (List (Int × ((Int × Int) × (Int × (Int × (Int × Int)))))))) (E := (List (Int × ((Int × Int) × (Int × (Int × (Int × Int))))))) (fun (x2 : (Int × (List (Int × ((Int × Int) × (Int × (Int × (Int × Int)))))))) =>
        bif (decide (x2.1 < (((List.length x.2.2.1) : Nat) : Int))) then
          (gd ((0 : Int) ≤ x2.1) (gd (x2.1 < (((List.length x.2.2.1) : Nat) : Int)) (Option.bind (m68 (x.1, ((List.getD x.2.2.1 (Int.toNat x2.1) (((0 : Int), (0 : Int)), ((0 : Int), ((0 : Int), ((0 : Int), (0 : Int)))))), ()))) fun (y3 : (Bool × Unit)) =>
              bif y3.1 then
                (bif (decide ((List.getD x.2.2.1 (Int.toNat x2.1) (((0 : Int), (0 : Int)), ((0 : Int), ((0 : Int), ((0 : Int), (0 : Int)))))).2.2.1 ≥ (Go.IntKind.wrap .i64 (x.2.1 * x.1)))) then
                  (some (Sum.inl ((Go.IntKind.wrap .i64 (x2.1 + (1 : Int))), x2.2)))
                else
                  (bif (!(mhas (false, (.int .i64)) x2.2 (List.getD x.2.2.1 (Int.toNat x2.1) (((0 : Int), (0 : Int)), ((0 : Int), ((0 : Int), ((0 : Int), (0 : Int)))))).2.2.1)) then
                    (some (Sum.inl ((Go.IntKind.wrap .i64 (x2.1 + (1 : Int))), (mset (false, (.int .i64)) x2.2 (List.getD x.2.2.1 (Int.toNat x2.1) (((0 : Int), (0 : Int)), ((0 : Int), ((0 : Int), ((0 : Int), (0 : Int)))))).2.2.1 (List.getD x.2.2.1 (Int.toNat x2.1) (((0 : Int), (0 : Int)), ((0 : Int), ((0 : Int), ((0 : Int), (0 : Int))))))))))
                  else
                    (Option.bind (m40 ((List.getD x.2.2.1 (Int.toNat x2.1) (((0 : Int), (0 : Int)), ((0 : Int), ((0 : Int), ((0 : Int), (0 : Int)))))), ((mget (false, (.int .i64)) x2.2 (List.getD x.2.2.1 (Int.toNat x2.1) (((0 : Int), (0 : Int)), ((0 : Int), ((0 : Int), ((0 : Int), (0 : Int)))))).2.2.1 (((0 : Int), (0 : Int)), ((0 : Int), ((0 : Int), ((0 : Int), (0 : Int)))))), ()))) fun (y4 : (Bool × Unit)) =>
                    bif y4.1 then
                      (some (Sum.inl ((Go.IntKind.wrap .i64 (x2.1 + (1 : Int))), (mset (false, (.int .i64)) x2.2 (List.getD x.2.2.1 (Int.toNat x2.1) (((0 : Int), (0 : Int)), ((0 : Int), ((0 : Int), ((0 : Int), (0 : Int)))))).2.2.1 (List.getD x.2.2.1 (Int.toNat x2.1) (((0 : Int), (0 : Int)), ((0 : Int), ((0 : Int), ((0 : Int), (0 : Int))))))))))
                    else
                      (some (Sum.inl ((Go.IntKind.wrap .i64 (x2.1 + (1 : Int))), x2.2))))))
              else
                (some (Sum.inl ((Go.IntKind.wrap .i64 (x2.1 + (1 : Int))), x2.2))))))
        else
          (some (Sum.inr x2.2))) ((0 : Int), ([] : List (Int × ((Int × Int) × (Int × (Int × (Int × Int)))))))) fun (y2 : (List (Int × ((Int × Int) × (Int × (Int × (Int × Int))))))) =>
    Option.bind (m42 ()) fun (y3 : ((Int × Int) × Unit)) =>
    Option.bind (m41 ((y3.1 :: ([] : List (Int × Int))), ((Go.IntKind.wrap .i64 (x.2.1 * x.1)), ()))) fun (y4 : (List (Int × Int))) =>
    Option.bind (anyM (A := (Int × ((Int × Int) × (Int × (Int × (Int × Int)))))) (X := (List (Int × Int))) (E := (List (Int × Int))) (fun (p5 : (Int × ((Int × Int) × (Int × (Int × (Int × Int)))))) l5 (x5 : (List (Int × Int))) =>
        gd ((0 : Int) ≤ p5.1) (gd (p5.1 < (((List.length x5) : Nat) : Int)) (gd ((Int.toNat p5.1) < (List.length x5)) (some (Sum.inl (List.set x5 (Int.toNat p5.1) p5.2.1)))))) (fun (x5 : (List (Int × Int))) =>
        some (Sum.inr x5)) y2 y4) fun (y5 : (List (Int × Int))) =>
    some (y5, ()))

noncomputable def i14_39 : ID := aInl Try.prog (envOf [] [] [] []) ⟨[], []⟩ Try.f39
noncomputable def i14_67 : ID := aInl Try.prog (envOf [(68, ⟨[(false, (.int .i64)), (true, (.pair (.pair (.int .i64) (.int .i64)) (.pair (.int .i64) (.pair (.int .i64) (.pair (.int .i64) (.int .i64))))))], [(false, .bool)], false, m68⟩)] [] [] []) ⟨[(10000, ⟨[.slot 8 (.d false (.int .i64) true), .map 3 (false, (.int .i64)) (true, (.pair (.pair (.int .i64) (.int .i64)) (.pair (.int .i64) (.pair (.int .i64) (.pair (.int .i64) (.int .i64)))))) true], [], [(some 0, [.map 3 (false, (.int .i64)) (true, (.pair (.pair (.int .i64) (.int .i64)) (.pair (.int .i64) (.pair (.int .i64) (.pair (.int .i64) (.int .i64)))))) true])], none⟩)], []⟩ Try.f67
noncomputable def r14 : PDen [(false, (.int .i64)), (false, (.int .i64)), (false, (.sl (.pair (.pair (.int .i64) (.int .i64)) (.pair (.int .i64) (.pair (.int .i64) (.pair (.int .i64) (.int .i64)))))))] → Option (PDen [(false, (.sl (.pair (.int .i64) (.int .i64))))]) := fun x => afun Try.prog (envOf [(38, ⟨[(false, (.int .i64)), (false, (.int .i64)), (false, (.int .i64))], [(true, (.pair (.int .i64) (.pair (.int .i64) (.pair (.int .i64) (.pair (.sl (.int .i64)) (.pair (.sl .bool) (.pair (.pair (.int .i64) (.pair (.int .i64) (.int .i64))) (.sl (.pair (.int .i64) (.sl (.int .i64))))))))))), (false, (.int .i64))], false, m38⟩), (40, ⟨[(true, (.pair (.pair (.int .i64) (.int .i64)) (.pair (.int .i64) (.pair (.int .i64) (.pair (.int .i64) (.int .i64)))))), (true, (.pair (.pair (.int .i64) (.int .i64)) (.pair (.int .i64) (.pair (.int .i64) (.pair (.int .i64) (.int .i64))))))], [(false, .bool)], false, m40⟩), (42, ⟨[], [(true, (.pair (.int .i64) (.int .i64)))], false, m42⟩)] [(41, OS.hd ⟨[(false, (.sl (.pair (.int .i64) (.int .i64)))), (false, (.int .i64))], 34, (.pair (.int .i64) (.int .i64)), false, m41⟩)] [] [(39, i14_39), (67, i14_67)]) ⟨[(2, ⟨[.vec 10 34 (.pair (.int .i64) (.int .i64)) true], [], [(some 2, [.vec 10 34 (.pair (.int .i64) (.int .i64)) true])], some 63⟩)], []⟩ Try.f14 [(false, (.int .i64)), (false, (.int .i64)), (false, (.sl (.pair (.pair (.int .i64) (.int .i64)) (.pair (.int .i64) (.pair (.int .i64) (.pair (.int .i64) (.int .i64)))))))] [(false, (.sl (.pair (.int .i64) (.int .i64))))] false x
theorem r14_eq : r14 = m14 := by kernel_rfl

theorem i14_39_sound : i14_39.Sound Try.prog 39 := aInl_sound' (envOf_sound (CSs.nil) (HDs.nil) (IDs.nil)) Try.follows (f := 39) (fn := Try.f39) Try.func39 (by kernel_rfl) (by kernel_rfl)
theorem i14_67_sound : i14_67.Sound Try.prog 67 := aInl_sound' (envOf_sound (CSs.cons c68 (CSs.nil)) (HDs.nil) (IDs.nil)) Try.follows (f := 67) (fn := Try.f67) Try.func67 (by kernel_rfl) (by kernel_rfl)
theorem c14 : CS.Sound Try.prog 14 ⟨[(false, (.int .i64)), (false, (.int .i64)), (false, (.sl (.pair (.pair (.int .i64) (.int .i64)) (.pair (.int .i64) (.pair (.int .i64) (.pair (.int .i64) (.int .i64)))))))], [(false, (.sl (.pair (.int .i64) (.int .i64))))], false, m14⟩ := afun_sound' (envOf_sound (CSs.cons c38 (CSs.cons c40 (CSs.cons c42 (CSs.nil)))) (HDs.cons (OS.Sound.hd c41) (HDs.nil)) (IDs.cons i14_39_sound (IDs.cons i14_67_sound (IDs.nil)))) rfl Try.follows (f := 14) (fn := Try.f14) Try.func14 (by kernel_rfl) (by kernel_rfl) r14_eq

/- Function 16: slipway/scan.Greatest. -/
noncomputable def m16 (x : (List ((Int × Int) × (Int × (Int × (Int × Int))))) × Unit) : Option (Int × Unit) :=
  Option.bind (loopM (X := (Int × Int)) (E := Int) (fun (x1 : (Int × Int)) =>
      bif (decide (x1.2 < (((List.length x.1) : Nat) : Int))) then
        (gd ((0 : Int) ≤ x1.2) (gd (x1.2 < (((List.length x.1) : Nat) : Int)) (Option.bind (m46 ((List.getD x.1 (Int.toNat x1.2) (((0 : Int), (0 : Int)), ((0 : Int), ((0 : Int), ((0 : Int), (0 : Int)))))).2, ())) fun (y2 : (Int × Unit)) =>
            bif (decide (y2.1 = (0 : Int))) then
              (some (Sum.inl ((if (List.getD x.1 (Int.toNat x1.2) (((0 : Int), (0 : Int)), ((0 : Int), ((0 : Int), ((0 : Int), (0 : Int)))))).2.2.2.2 > x1.1 then (List.getD x.1 (Int.toNat x1.2) (((0 : Int), (0 : Int)), ((0 : Int), ((0 : Int), ((0 : Int), (0 : Int)))))).2.2.2.2 else x1.1), (Go.IntKind.wrap .i64 (x1.2 + (1 : Int))))))
            else
              (some (Sum.inl (x1.1, (Go.IntKind.wrap .i64 (x1.2 + (1 : Int)))))))))
      else
        (some (Sum.inr x1.1))) ((0 : Int), (0 : Int))) fun (y1 : Int) =>
  some (y1, ())

noncomputable def r16 : PDen [(false, (.sl (.pair (.pair (.int .i64) (.int .i64)) (.pair (.int .i64) (.pair (.int .i64) (.pair (.int .i64) (.int .i64)))))))] → Option (PDen [(false, (.int .i64))]) := fun x => afun Try.prog (envOf [(46, ⟨[(true, (.pair (.int .i64) (.pair (.int .i64) (.pair (.int .i64) (.int .i64)))))], [(false, (.int .i64))], false, m46⟩)] [] [] []) ⟨[(0, ⟨[.slot 3 (.d false (.int .i64) true), .slot 8 (.d false (.int .i64) true)], [], [(some 0, [.slot 3 (.d false (.int .i64) true)])], none⟩)], []⟩ Try.f16 [(false, (.sl (.pair (.pair (.int .i64) (.int .i64)) (.pair (.int .i64) (.pair (.int .i64) (.pair (.int .i64) (.int .i64)))))))] [(false, (.int .i64))] false x
theorem r16_eq : r16 = m16 := by kernel_rfl

theorem c16 : CS.Sound Try.prog 16 ⟨[(false, (.sl (.pair (.pair (.int .i64) (.int .i64)) (.pair (.int .i64) (.pair (.int .i64) (.pair (.int .i64) (.int .i64)))))))], [(false, (.int .i64))], false, m16⟩ := afun_sound' (envOf_sound (CSs.cons c46 (CSs.nil)) (HDs.nil) (IDs.nil)) rfl Try.follows (f := 16) (fn := Try.f16) Try.func16 (by kernel_rfl) (by kernel_rfl) r16_eq

/- Function 11: slipway/slipwaylaw07.live. -/
noncomputable def m11 (x : Unit) : Option (Bool × Unit) :=
  Option.bind (m14 ((4 : Int), ((2 : Int), (((((7 : Int), (1 : Int)), ((1 : Int), ((5 : Int), ((3 : Int), (3 : Int))))) :: ((((9 : Int), (0 : Int)), ((2 : Int), ((5 : Int), ((4 : Int), (4 : Int))))) :: ([] : List ((Int × Int) × (Int × (Int × (Int × Int))))))), ())))) fun (y1 : ((List (Int × Int)) × Unit)) =>
  bif (decide ((((List.length y1.1) : Nat) : Int) = (8 : Int))) then
    (gd ((5 : Int) < (((List.length y1.1) : Nat) : Int)) (bif ((decide ((List.getD y1.1 (Int.toNat (5 : Int)) ((0 : Int), (0 : Int))).1 = (9 : Int))) && (decide ((List.getD y1.1 (Int.toNat (5 : Int)) ((0 : Int), (0 : Int))).2 = (0 : Int)))) then
        (gd ((0 : Int) < (((List.length y1.1) : Nat) : Int)) (bif ((decide ((List.getD y1.1 (Int.toNat (0 : Int)) ((0 : Int), (0 : Int))).1 = (-1 : Int))) && (decide ((List.getD y1.1 (Int.toNat (0 : Int)) ((0 : Int), (0 : Int))).2 = (0 : Int)))) then
            (Option.bind (m16 (((((7 : Int), (1 : Int)), ((1 : Int), ((5 : Int), ((3 : Int), (3 : Int))))) :: ((((9 : Int), (0 : Int)), ((2 : Int), ((5 : Int), ((4 : Int), (4 : Int))))) :: ([] : List ((Int × Int) × (Int × (Int × (Int × Int))))))), ())) fun (y2 : (Int × Unit)) =>
            some ((decide (y2.1 = (4 : Int))), ()))
          else
            (some (false, ()))))
      else
        (some (false, ()))))
  else
    (some (false, ()))

noncomputable def r11 : PDen [] → Option (PDen [(false, .bool)]) := fun x => afun Try.prog (envOf [(14, ⟨[(false, (.int .i64)), (false, (.int .i64)), (false, (.sl (.pair (.pair (.int .i64) (.int .i64)) (.pair (.int .i64) (.pair (.int .i64) (.pair (.int .i64) (.int .i64)))))))], [(false, (.sl (.pair (.int .i64) (.int .i64))))], false, m14⟩), (16, ⟨[(false, (.sl (.pair (.pair (.int .i64) (.int .i64)) (.pair (.int .i64) (.pair (.int .i64) (.pair (.int .i64) (.int .i64)))))))], [(false, (.int .i64))], false, m16⟩)] [] [] []) ⟨[], []⟩ Try.f11 [] [(false, .bool)] false x
theorem r11_eq : r11 = m11 := by kernel_rfl

theorem c11 : CS.Sound Try.prog 11 ⟨[], [(false, .bool)], false, m11⟩ := afun_sound' (envOf_sound (CSs.cons c14 (CSs.cons c16 (CSs.nil))) (HDs.nil) (IDs.nil)) rfl Try.follows (f := 11) (fn := Try.f11) Try.func11 (by kernel_rfl) (by kernel_rfl) r11_eq

/- Function 12: slipway/slipwaylaw07.few. -/
noncomputable def m12 (x : (Int × (Int × (Int × ((List ((Int × Int) × (Int × (Int × (Int × Int))))) × (List (Int × Int)))))) × Unit) : Option (Bool × Unit) :=
  bif (decide ((((List.length x.1.2.2.2.1) : Nat) : Int) ≤ (80 : Int))) then
    (bif (decide ((((List.length x.1.2.2.2.2) : Nat) : Int) ≤ (400 : Int))) then
      (bif (decide (x.1.2.1 ≤ (24 : Int))) then
        (some (true, ()))
      else
        (some ((decide (x.1.2.1 > (256 : Int))), ())))
    else
      (some (false, ())))
  else
    (some (false, ()))

noncomputable def r12 : PDen [(true, (.pair (.int .i64) (.pair (.int .i64) (.pair (.int .i64) (.pair (.sl (.pair (.pair (.int .i64) (.int .i64)) (.pair (.int .i64) (.pair (.int .i64) (.pair (.int .i64) (.int .i64)))))) (.sl (.pair (.int .i64) (.int .i64))))))))] → Option (PDen [(false, .bool)]) := fun x => afun Try.prog (envOf [] [] [] []) ⟨[], []⟩ Try.f12 [(true, (.pair (.int .i64) (.pair (.int .i64) (.pair (.int .i64) (.pair (.sl (.pair (.pair (.int .i64) (.int .i64)) (.pair (.int .i64) (.pair (.int .i64) (.pair (.int .i64) (.int .i64)))))) (.sl (.pair (.int .i64) (.int .i64))))))))] [(false, .bool)] false x
theorem r12_eq : r12 = m12 := by kernel_rfl

theorem c12 : CS.Sound Try.prog 12 ⟨[(true, (.pair (.int .i64) (.pair (.int .i64) (.pair (.int .i64) (.pair (.sl (.pair (.pair (.int .i64) (.int .i64)) (.pair (.int .i64) (.pair (.int .i64) (.pair (.int .i64) (.int .i64)))))) (.sl (.pair (.int .i64) (.int .i64))))))))], [(false, .bool)], false, m12⟩ := afun_sound' (envOf_sound (CSs.nil) (HDs.nil) (IDs.nil)) rfl Try.follows (f := 12) (fn := Try.f12) Try.func12 (by kernel_rfl) (by kernel_rfl) r12_eq

/- Function 50: slipway/scan.isPlace. -/
noncomputable def m50 (x : (Int × Int) × Unit) : Option (Bool × Unit) :=
  Option.bind (m48 (x.1.1, ((0 : Int), ((255 : Int), ())))) fun (y1 : (Bool × Unit)) =>
  bif y1.1 then
    (Option.bind (m48 (x.1.2, ((0 : Int), ((31 : Int), ())))) fun (y2 : (Bool × Unit)) =>
    some (y2.1, ()))
  else
    (some (false, ()))

noncomputable def r50 : PDen [(true, (.pair (.int .i64) (.int .i64)))] → Option (PDen [(false, .bool)]) := fun x => afun Try.prog (envOf [(48, ⟨[(false, (.int .i64)), (false, (.int .i64)), (false, (.int .i64))], [(false, .bool)], false, m48⟩)] [] [] []) ⟨[], []⟩ Try.f50 [(true, (.pair (.int .i64) (.int .i64)))] [(false, .bool)] false x
theorem r50_eq : r50 = m50 := by kernel_rfl

theorem c50 : CS.Sound Try.prog 50 ⟨[(true, (.pair (.int .i64) (.int .i64)))], [(false, .bool)], false, m50⟩ := afun_sound' (envOf_sound (CSs.cons c48 (CSs.nil)) (HDs.nil) (IDs.nil)) rfl Try.follows (f := 50) (fn := Try.f50) Try.func50 (by kernel_rfl) (by kernel_rfl) r50_eq

/- Function 47: slices.Clone[[]slipway/api.Place,slipway/api.Place]. -/
noncomputable def m47 (x : (List (Int × Int)) × Unit) : Option (List (Int × Int)) :=
  both (bif (decide ((((List.length x.1) : Nat) : Int) = (0 : Int))) then
      (some ([] : List (Int × Int)))
    else
      (gd ((((List.length ([] : List (Int × Int))) + (List.length x.1)) * 16) ≤ 140737488355328) (gd (((List.length ([] : List (Int × Int))) + (List.length x.1)) ≤ 140737488355328) (some (([] : List (Int × Int)) ++ x.1))))) (gd ((((List.length ([] : List (Int × Int))) + (List.length x.1)) * 16) ≤ 140737488355328) (gd (((List.length ([] : List (Int × Int))) + (List.length x.1)) ≤ 140737488355328) (some (([] : List (Int × Int)) ++ x.1))))

noncomputable def r47 : PDen [(false, (.sl (.pair (.int .i64) (.int .i64))))] → Option (List (K.den (.pair (.int .i64) (.int .i64)))) := fun x => afunO Try.prog (envOf [] [] [] []) ⟨[], []⟩ Try.f47 [(false, (.sl (.pair (.int .i64) (.int .i64))))] 34 (.pair (.int .i64) (.int .i64)) false x
theorem r47_eq : r47 = m47 := by kernel_rfl

theorem c47 : OS.Sound Try.prog 47 ⟨[(false, (.sl (.pair (.int .i64) (.int .i64))))], 34, (.pair (.int .i64) (.int .i64)), false, m47⟩ := afunO_sound' (envOf_sound (CSs.nil) (HDs.nil) (IDs.nil)) rfl Try.follows (f := 47) (fn := Try.f47) Try.func47 (by kernel_rfl) (by kernel_rfl) r47_eq

/- Function 21: slipway/scan.Best. -/
noncomputable def m21 (x : Int × (List (Int × Int)) × (List ((Int × Int) × (Int × (Int × (Int × Int))))) × Unit) : Option ((List (Int × Int)) × Unit) :=
  Option.bind (m47 (x.2.1, ())) fun (y1 : (List (Int × Int))) =>
  Option.bind (m48 (x.1, ((4 : Int), ((32 : Int), ())))) fun (y2 : (Bool × Unit)) =>
  bif (!y2.1) then
    (some (y1, ()))
  else
    (Option.bind (loopM (X := (Int × (List ((Int × (Int × Int)) × Int)))) (E := (List ((Int × (Int × Int)) × Int))) (fun (x3 : (Int × (List ((Int × (Int × Int)) × Int)))) =>
        bif (decide (x3.1 < (((List.length x.2.2.1) : Nat) : Int))) then
          (gd ((0 : Int) ≤ x3.1) (gd (x3.1 < (((List.length x.2.2.1) : Nat) : Int)) (Option.bind (m68 (x.1, ((List.getD x.2.2.1 (Int.toNat x3.1) (((0 : Int), (0 : Int)), ((0 : Int), ((0 : Int), ((0 : Int), (0 : Int)))))), ()))) fun (y4 : (Bool × Unit)) =>
              bif y4.1 then
                (some (Sum.inl ((Go.IntKind.wrap .i64 (x3.1 + (1 : Int))), (mset (true, (.pair (.int .i64) (.pair (.int .i64) (.int .i64)))) x3.2 ((List.getD x.2.2.1 (Int.toNat x3.1) (((0 : Int), (0 : Int)), ((0 : Int), ((0 : Int), ((0 : Int), (0 : Int)))))).2.2.1, (List.getD x.2.2.1 (Int.toNat x3.1) (((0 : Int), (0 : Int)), ((0 : Int), ((0 : Int), ((0 : Int), (0 : Int)))))).1) (if (List.getD x.2.2.1 (Int.toNat x3.1) (((0 : Int), (0 : Int)), ((0 : Int), ((0 : Int), ((0 : Int), (0 : Int)))))).2.2.2.1 > (mget (true, (.pair (.int .i64) (.pair (.int .i64) (.int .i64)))) x3.2 ((List.getD x.2.2.1 (Int.toNat x3.1) (((0 : Int), (0 : Int)), ((0 : Int), ((0 : Int), ((0 : Int), (0 : Int)))))).2.2.1, (List.getD x.2.2.1 (Int.toNat x3.1) (((0 : Int), (0 : Int)), ((0 : Int), ((0 : Int), ((0 : Int), (0 : Int)))))).1) (0 : Int)) then (List.getD x.2.2.1 (Int.toNat x3.1) (((0 : Int), (0 : Int)), ((0 : Int), ((0 : Int), ((0 : Int), (0 : Int)))))).2.2.2.1 else (mget (true, (.pair (.int .i64) (.pair (.int .i64) (.int .i64)))) x3.2 ((List.getD x.2.2.1 (Int.toNat x3.1) (((0 : Int), (0 : Int)), ((0 : Int), ((0 : Int), ((0 : Int), (0 : Int)))))).2.2.1, (List.getD x.2.2.1 (Int.toNat x3.1) (((0 : Int), (0 : Int)), ((0 : Int), ((0 : Int), ((0 : Int), (0 : Int)))))).1) (0 : Int)))))))
              else
                (some (Sum.inl ((Go.IntKind.wrap .i64 (x3.1 + (1 : Int))), x3.2))))))
        else
          (some (Sum.inr x3.2))) ((0 : Int), ([] : List ((Int × (Int × Int)) × Int)))) fun (y3 : (List ((Int × (Int × Int)) × Int))) =>
    if x.1 = (0 : Int) then
      (none)
    else
      (Option.bind (loopM (X := (Int × (List (Int × Int)))) (E := (List (Int × Int))) (fun (x4 : (Int × (List (Int × Int)))) =>
          bif (decide (x4.1 < (Go.IntKind.wrap .i64 (Int.tdiv (((List.length x.2.1) : Nat) : Int) x.1)))) then
            (gd ((0 : Int) ≤ (Go.IntKind.wrap .i64 (x4.1 * x.1))) (gd ((Go.IntKind.wrap .i64 (x4.1 * x.1)) ≤ (Go.IntKind.wrap .i64 ((Go.IntKind.wrap .i64 (x4.1 + (1 : Int))) * x.1))) (gd ((Go.IntKind.wrap .i64 ((Go.IntKind.wrap .i64 (x4.1 + (1 : Int))) * x.1)) ≤ (((List.length x.2.1) : Nat) : Int)) (Option.bind (loopM (X := Int) (E := (Unit ⊕ Int)) (fun (x5 : Int) =>
                      bif (decide (x5 < (((List.length (List.take ((Int.toNat (Go.IntKind.wrap .i64 ((Go.IntKind.wrap .i64 (x4.1 + (1 : Int))) * x.1))) - (Int.toNat (Go.IntKind.wrap .i64 (x4.1 * x.1)))) (List.drop (Int.toNat (Go.IntKind.wrap .i64 (x4.1 * x.1))) x.2.1))) : Nat) : Int))) then
                        (gd ((0 : Int) ≤ x5) (gd (x5 < (((List.length (List.take ((Int.toNat (Go.IntKind.wrap .i64 ((Go.IntKind.wrap .i64 (x4.1 + (1 : Int))) * x.1))) - (Int.toNat (Go.IntKind.wrap .i64 (x4.1 * x.1)))) (List.drop (Int.toNat (Go.IntKind.wrap .i64 (x4.1 * x.1))) x.2.1))) : Nat) : Int)) (Option.bind (m50 ((List.getD (List.take ((Int.toNat (Go.IntKind.wrap .i64 ((Go.IntKind.wrap .i64 (x4.1 + (1 : Int))) * x.1))) - (Int.toNat (Go.IntKind.wrap .i64 (x4.1 * x.1)))) (List.drop (Int.toNat (Go.IntKind.wrap .i64 (x4.1 * x.1))) x.2.1)) (Int.toNat x5) ((0 : Int), (0 : Int))), ())) fun (y6 : (Bool × Unit)) =>
                            bif y6.1 then
                              (some (Sum.inr (Sum.inr x5)))
                            else
                              (some (Sum.inl (Go.IntKind.wrap .i64 (x5 + (1 : Int))))))))
                      else
                        (some (Sum.inr (Sum.inl ())))) (0 : Int)) fun (y5 : (Unit ⊕ Int)) =>
                  Sum.elim (fun y6 =>
                    Option.bind (loopM (X := Int) (E := (Unit ⊕ (Int × Bool))) (fun (x7 : Int) =>
                        bif (decide ((-1 : Int) ≥ (0 : Int))) then
                          (bif (decide (x7 < (256 : Int))) then
                            (gd ((0 : Int) ≤ (Go.IntKind.wrap .i64 (x4.1 * x.1))) (gd ((Go.IntKind.wrap .i64 (x4.1 * x.1)) ≤ (Go.IntKind.wrap .i64 ((Go.IntKind.wrap .i64 (x4.1 + (1 : Int))) * x.1))) (gd ((Go.IntKind.wrap .i64 ((Go.IntKind.wrap .i64 (x4.1 + (1 : Int))) * x.1)) ≤ (((List.length x.2.1) : Nat) : Int)) (Option.bind (loopM (X := (Bool × Int)) (E := Bool) (fun (x8 : (Bool × Int)) =>
                                      bif (decide (x8.2 < (((List.length (List.take ((Int.toNat (Go.IntKind.wrap .i64 ((Go.IntKind.wrap .i64 (x4.1 + (1 : Int))) * x.1))) - (Int.toNat (Go.IntKind.wrap .i64 (x4.1 * x.1)))) (List.drop (Int.toNat (Go.IntKind.wrap .i64 (x4.1 * x.1))) x.2.1))) : Nat) : Int))) then
                                        (gd ((0 : Int) ≤ x8.2) (gd (x8.2 < (((List.length (List.take ((Int.toNat (Go.IntKind.wrap .i64 ((Go.IntKind.wrap .i64 (x4.1 + (1 : Int))) * x.1))) - (Int.toNat (Go.IntKind.wrap .i64 (x4.1 * x.1)))) (List.drop (Int.toNat (Go.IntKind.wrap .i64 (x4.1 * x.1))) x.2.1))) : Nat) : Int)) (Option.bind (m50 ((List.getD (List.take ((Int.toNat (Go.IntKind.wrap .i64 ((Go.IntKind.wrap .i64 (x4.1 + (1 : Int))) * x.1))) - (Int.toNat (Go.IntKind.wrap .i64 (x4.1 * x.1)))) (List.drop (Int.toNat (Go.IntKind.wrap .i64 (x4.1 * x.1))) x.2.1)) (Int.toNat x8.2) ((0 : Int), (0 : Int))), ())) fun (y9 : (Bool × Unit)) =>
                                            bif y9.1 then
                                              (bif (decide ((mget (true, (.pair (.int .i64) (.pair (.int .i64) (.int .i64)))) y3 ((Go.IntKind.wrap .i64 ((Go.IntKind.wrap .i64 (x4.1 * x.1)) + x8.2)), (List.getD (List.take ((Int.toNat (Go.IntKind.wrap .i64 ((Go.IntKind.wrap .i64 (x4.1 + (1 : Int))) * x.1))) - (Int.toNat (Go.IntKind.wrap .i64 (x4.1 * x.1)))) (List.drop (Int.toNat (Go.IntKind.wrap .i64 (x4.1 * x.1))) x.2.1)) (Int.toNat x8.2) ((0 : Int), (0 : Int)))) (0 : Int)) = (0 : Int))) then
                                                (some (Sum.inr false))
                                              else
                                                (bif (!(decide ((mget (true, (.pair (.int .i64) (.pair (.int .i64) (.int .i64)))) y3 ((Go.IntKind.wrap .i64 ((Go.IntKind.wrap .i64 (x4.1 * x.1)) + x8.2)), (x7, x8.2)) (0 : Int)) = (mget (true, (.pair (.int .i64) (.pair (.int .i64) (.int .i64)))) y3 ((Go.IntKind.wrap .i64 ((Go.IntKind.wrap .i64 (x4.1 * x.1)) + x8.2)), (List.getD (List.take ((Int.toNat (Go.IntKind.wrap .i64 ((Go.IntKind.wrap .i64 (x4.1 + (1 : Int))) * x.1))) - (Int.toNat (Go.IntKind.wrap .i64 (x4.1 * x.1)))) (List.drop (Int.toNat (Go.IntKind.wrap .i64 (x4.1 * x.1))) x.2.1)) (Int.toNat x8.2) ((0 : Int), (0 : Int)))) (0 : Int))))) then
                                                  (some (Sum.inr false))
                                                else
                                                  (some (Sum.inl (x8.1, (Go.IntKind.wrap .i64 (x8.2 + (1 : Int))))))))
                                            else
                                              (some (Sum.inl (x8.1, (Go.IntKind.wrap .i64 (x8.2 + (1 : Int)))))))))
                                      else
                                        (some (Sum.inr x8.1))) (true, (0 : Int))) fun (y8 : Bool) =>
                                  bif y8 then
                                    (some (Sum.inr (Sum.inr (x7, true))))
                                  else
                                    (some (Sum.inl (Go.IntKind.wrap .i64 (x7 + (1 : Int)))))))))
                          else
                            (some (Sum.inr (Sum.inl ()))))
                        else
                          (some (Sum.inr (Sum.inl ())))) (0 : Int)) fun (y7 : (Unit ⊕ (Int × Bool))) =>
                    Sum.elim (fun y8 =>
                      Option.bind (loopM (X := (Int × (List (Int × Int)))) (E := (List (Int × Int))) (fun (x9 : (Int × (List (Int × Int)))) =>
                          bif (decide (x9.1 < x.1)) then
                            (some (Sum.inl ((Go.IntKind.wrap .i64 (x9.1 + (1 : Int))), x9.2)))
                          else
                            (some (Sum.inr x9.2))) ((0 : Int), x4.2)) fun (y9 : (List (Int × Int))) =>
                      some (Sum.inl ((Go.IntKind.wrap .i64 (x4.1 + (1 : Int))), y9))) (fun y8 =>
                      Option.bind (loopM (X := (Int × (List (Int × Int)))) (E := (List (Int × Int))) (fun (x9 : (Int × (List (Int × Int)))) =>
                          bif (decide (x9.1 < x.1)) then
                            (bif y8.2 then
                              (gd ((0 : Int) ≤ (Go.IntKind.wrap .i64 ((Go.IntKind.wrap .i64 (x4.1 * x.1)) + x9.1))) (gd ((Go.IntKind.wrap .i64 ((Go.IntKind.wrap .i64 (x4.1 * x.1)) + x9.1)) < (((List.length x.2.1) : Nat) : Int)) (Option.bind (m50 ((List.getD x.2.1 (Int.toNat (Go.IntKind.wrap .i64 ((Go.IntKind.wrap .i64 (x4.1 * x.1)) + x9.1))) ((0 : Int), (0 : Int))), ())) fun (y10 : (Bool × Unit)) =>
                                  bif y10.1 then
                                    (gd ((0 : Int) ≤ (Go.IntKind.wrap .i64 ((Go.IntKind.wrap .i64 (x4.1 * x.1)) + x9.1))) (gd ((Go.IntKind.wrap .i64 ((Go.IntKind.wrap .i64 (x4.1 * x.1)) + x9.1)) < (((List.length x9.2) : Nat) : Int)) (gd ((Int.toNat (Go.IntKind.wrap .i64 ((Go.IntKind.wrap .i64 (x4.1 * x.1)) + x9.1))) < (List.length x9.2)) (some (Sum.inl ((Go.IntKind.wrap .i64 (x9.1 + (1 : Int))), (List.set x9.2 (Int.toNat (Go.IntKind.wrap .i64 ((Go.IntKind.wrap .i64 (x4.1 * x.1)) + x9.1))) (y8.1, x9.1))))))))
                                  else
                                    (some (Sum.inl ((Go.IntKind.wrap .i64 (x9.1 + (1 : Int))), x9.2))))))
                            else
                              (some (Sum.inl ((Go.IntKind.wrap .i64 (x9.1 + (1 : Int))), x9.2))))
                          else
                            (some (Sum.inr x9.2))) ((0 : Int), x4.2)) fun (y9 : (List (Int × Int))) =>
                      some (Sum.inl ((Go.IntKind.wrap .i64 (x4.1 + (1 : Int))), y9))) y7) (fun y6 =>
                    Option.bind (loopM (X := Int) (E := (Unit ⊕ (Int × Bool))) (fun (x7 : Int) =>
                        bif (decide (y6 ≥ (0 : Int))) then
                          (bif (decide (x7 < (256 : Int))) then
                            (gd ((0 : Int) ≤ (Go.IntKind.wrap .i64 (x4.1 * x.1))) (gd ((Go.IntKind.wrap .i64 (x4.1 * x.1)) ≤ (Go.IntKind.wrap .i64 ((Go.IntKind.wrap .i64 (x4.1 + (1 : Int))) * x.1))) (gd ((Go.IntKind.wrap .i64 ((Go.IntKind.wrap .i64 (x4.1 + (1 : Int))) * x.1)) ≤ (((List.length x.2.1) : Nat) : Int)) (Option.bind (loopM (X := (Bool × Int)) (E := Bool) (fun (x8 : (Bool × Int)) =>
                                      bif (decide (x8.2 < (((List.length (List.take ((Int.toNat (Go.IntKind.wrap .i64 ((Go.IntKind.wrap .i64 (x4.1 + (1 : Int))) * x.1))) - (Int.toNat (Go.IntKind.wrap .i64 (x4.1 * x.1)))) (List.drop (Int.toNat (Go.IntKind.wrap .i64 (x4.1 * x.1))) x.2.1))) : Nat) : Int))) then
                                        (gd ((0 : Int) ≤ x8.2) (gd (x8.2 < (((List.length (List.take ((Int.toNat (Go.IntKind.wrap .i64 ((Go.IntKind.wrap .i64 (x4.1 + (1 : Int))) * x.1))) - (Int.toNat (Go.IntKind.wrap .i64 (x4.1 * x.1)))) (List.drop (Int.toNat (Go.IntKind.wrap .i64 (x4.1 * x.1))) x.2.1))) : Nat) : Int)) (Option.bind (m50 ((List.getD (List.take ((Int.toNat (Go.IntKind.wrap .i64 ((Go.IntKind.wrap .i64 (x4.1 + (1 : Int))) * x.1))) - (Int.toNat (Go.IntKind.wrap .i64 (x4.1 * x.1)))) (List.drop (Int.toNat (Go.IntKind.wrap .i64 (x4.1 * x.1))) x.2.1)) (Int.toNat x8.2) ((0 : Int), (0 : Int))), ())) fun (y9 : (Bool × Unit)) =>
                                            bif y9.1 then
                                              (bif (decide ((mget (true, (.pair (.int .i64) (.pair (.int .i64) (.int .i64)))) y3 ((Go.IntKind.wrap .i64 ((Go.IntKind.wrap .i64 (x4.1 * x.1)) + x8.2)), (List.getD (List.take ((Int.toNat (Go.IntKind.wrap .i64 ((Go.IntKind.wrap .i64 (x4.1 + (1 : Int))) * x.1))) - (Int.toNat (Go.IntKind.wrap .i64 (x4.1 * x.1)))) (List.drop (Int.toNat (Go.IntKind.wrap .i64 (x4.1 * x.1))) x.2.1)) (Int.toNat x8.2) ((0 : Int), (0 : Int)))) (0 : Int)) = (0 : Int))) then
                                                (some (Sum.inr false))
                                              else
                                                (bif (!(decide ((mget (true, (.pair (.int .i64) (.pair (.int .i64) (.int .i64)))) y3 ((Go.IntKind.wrap .i64 ((Go.IntKind.wrap .i64 (x4.1 * x.1)) + x8.2)), (x7, x8.2)) (0 : Int)) = (mget (true, (.pair (.int .i64) (.pair (.int .i64) (.int .i64)))) y3 ((Go.IntKind.wrap .i64 ((Go.IntKind.wrap .i64 (x4.1 * x.1)) + x8.2)), (List.getD (List.take ((Int.toNat (Go.IntKind.wrap .i64 ((Go.IntKind.wrap .i64 (x4.1 + (1 : Int))) * x.1))) - (Int.toNat (Go.IntKind.wrap .i64 (x4.1 * x.1)))) (List.drop (Int.toNat (Go.IntKind.wrap .i64 (x4.1 * x.1))) x.2.1)) (Int.toNat x8.2) ((0 : Int), (0 : Int)))) (0 : Int))))) then
                                                  (some (Sum.inr false))
                                                else
                                                  (some (Sum.inl (x8.1, (Go.IntKind.wrap .i64 (x8.2 + (1 : Int))))))))
                                            else
                                              (some (Sum.inl (x8.1, (Go.IntKind.wrap .i64 (x8.2 + (1 : Int)))))))))
                                      else
                                        (some (Sum.inr x8.1))) (true, (0 : Int))) fun (y8 : Bool) =>
                                  bif y8 then
                                    (some (Sum.inr (Sum.inr (x7, true))))
                                  else
                                    (some (Sum.inl (Go.IntKind.wrap .i64 (x7 + (1 : Int)))))))))
                          else
                            (some (Sum.inr (Sum.inl ()))))
                        else
                          (some (Sum.inr (Sum.inl ())))) (0 : Int)) fun (y7 : (Unit ⊕ (Int × Bool))) =>
                    Sum.elim (fun y8 =>
                      Option.bind (loopM (X := (Int × (List (Int × Int)))) (E := (List (Int × Int))) (fun (x9 : (Int × (List (Int × Int)))) =>
                          bif (decide (x9.1 < x.1)) then
                            (some (Sum.inl ((Go.IntKind.wrap .i64 (x9.1 + (1 : Int))), x9.2)))
                          else
                            (some (Sum.inr x9.2))) ((0 : Int), x4.2)) fun (y9 : (List (Int × Int))) =>
                      some (Sum.inl ((Go.IntKind.wrap .i64 (x4.1 + (1 : Int))), y9))) (fun y8 =>
                      Option.bind (loopM (X := (Int × (List (Int × Int)))) (E := (List (Int × Int))) (fun (x9 : (Int × (List (Int × Int)))) =>
                          bif (decide (x9.1 < x.1)) then
                            (bif y8.2 then
                              (gd ((0 : Int) ≤ (Go.IntKind.wrap .i64 ((Go.IntKind.wrap .i64 (x4.1 * x.1)) + x9.1))) (gd ((Go.IntKind.wrap .i64 ((Go.IntKind.wrap .i64 (x4.1 * x.1)) + x9.1)) < (((List.length x.2.1) : Nat) : Int)) (Option.bind (m50 ((List.getD x.2.1 (Int.toNat (Go.IntKind.wrap .i64 ((Go.IntKind.wrap .i64 (x4.1 * x.1)) + x9.1))) ((0 : Int), (0 : Int))), ())) fun (y10 : (Bool × Unit)) =>
                                  bif y10.1 then
                                    (gd ((0 : Int) ≤ (Go.IntKind.wrap .i64 ((Go.IntKind.wrap .i64 (x4.1 * x.1)) + x9.1))) (gd ((Go.IntKind.wrap .i64 ((Go.IntKind.wrap .i64 (x4.1 * x.1)) + x9.1)) < (((List.length x9.2) : Nat) : Int)) (gd ((Int.toNat (Go.IntKind.wrap .i64 ((Go.IntKind.wrap .i64 (x4.1 * x.1)) + x9.1))) < (List.length x9.2)) (some (Sum.inl ((Go.IntKind.wrap .i64 (x9.1 + (1 : Int))), (List.set x9.2 (Int.toNat (Go.IntKind.wrap .i64 ((Go.IntKind.wrap .i64 (x4.1 * x.1)) + x9.1))) (y8.1, x9.1))))))))
                                  else
                                    (some (Sum.inl ((Go.IntKind.wrap .i64 (x9.1 + (1 : Int))), x9.2))))))
                            else
                              (some (Sum.inl ((Go.IntKind.wrap .i64 (x9.1 + (1 : Int))), x9.2))))
                          else
                            (some (Sum.inr x9.2))) ((0 : Int), x4.2)) fun (y9 : (List (Int × Int))) =>
                      some (Sum.inl ((Go.IntKind.wrap .i64 (x4.1 + (1 : Int))), y9))) y7) y5))))
          else
            (some (Sum.inr x4.2))) ((0 : Int), y1)) fun (y4 : (List (Int × Int))) =>
      some (y4, ())))

noncomputable def i21_39 : ID := aInl Try.prog (envOf [] [] [] []) ⟨[], []⟩ Try.f39
noncomputable def i21_72 : ID := aInl Try.prog (envOf [(50, ⟨[(true, (.pair (.int .i64) (.int .i64)))], [(false, .bool)], false, m50⟩)] [] [] []) ⟨[(8000, ⟨[.slot 8 (.d false (.int .i64) true)], [], [(some 0, []), (none, [.slot 4 (.d false (.int .i64) true)])], none⟩)], []⟩ Try.f72
noncomputable def i21_54 : ID := aInl Try.prog (envOf [] [] [] [(72, i21_72)]) ⟨[], []⟩ Try.f54
noncomputable def i21_49 : ID := aInl Try.prog (envOf [(50, ⟨[(true, (.pair (.int .i64) (.int .i64)))], [(false, .bool)], false, m50⟩)] [] [] [(54, i21_54)]) ⟨[(8000, ⟨[.slot 11 (.d false (.int .i64) true)], [], [(some 0, []), (none, [.slot 8 (.d false (.int .i64) true), .slot 9 (.d false .bool true)])], none⟩), (8002, ⟨[.slot 12 (.d false .bool true), .slot 43 (.d false (.int .i64) true)], [], [(some 2, [.slot 12 (.d false .bool true)])], none⟩)], []⟩ Try.f49
noncomputable def i21_67 : ID := aInl Try.prog (envOf [(68, ⟨[(false, (.int .i64)), (true, (.pair (.pair (.int .i64) (.int .i64)) (.pair (.int .i64) (.pair (.int .i64) (.pair (.int .i64) (.int .i64))))))], [(false, .bool)], false, m68⟩)] [] [] []) ⟨[(8000, ⟨[.slot 8 (.d false (.int .i64) true), .map 1 (true, (.pair (.int .i64) (.pair (.int .i64) (.int .i64)))) (false, (.int .i64)) true], [], [(some 0, [.map 1 (true, (.pair (.int .i64) (.pair (.int .i64) (.int .i64)))) (false, (.int .i64)) true])], none⟩)], []⟩ Try.f67
noncomputable def r21 : PDen [(false, (.int .i64)), (false, (.sl (.pair (.int .i64) (.int .i64)))), (false, (.sl (.pair (.pair (.int .i64) (.int .i64)) (.pair (.int .i64) (.pair (.int .i64) (.pair (.int .i64) (.int .i64)))))))] → Option (PDen [(false, (.sl (.pair (.int .i64) (.int .i64))))]) := fun x => afun Try.prog (envOf [(48, ⟨[(false, (.int .i64)), (false, (.int .i64)), (false, (.int .i64))], [(false, .bool)], false, m48⟩), (50, ⟨[(true, (.pair (.int .i64) (.int .i64)))], [(false, .bool)], false, m50⟩)] [(47, OS.hd ⟨[(false, (.sl (.pair (.int .i64) (.int .i64))))], 34, (.pair (.int .i64) (.int .i64)), false, m47⟩)] [] [(39, i21_39), (49, i21_49), (67, i21_67)]) ⟨[(2, ⟨[.slot 45 (.d false (.int .i64) true), .vec 0 34 (.pair (.int .i64) (.int .i64)) true], [], [(some 2, [.vec 0 34 (.pair (.int .i64) (.int .i64)) true])], none⟩), (4, ⟨[.slot 57 (.d false (.int .i64) true), .vec 0 34 (.pair (.int .i64) (.int .i64)) true], [], [(some 4, [.vec 0 34 (.pair (.int .i64) (.int .i64)) true])], none⟩)], []⟩ Try.f21 [(false, (.int .i64)), (false, (.sl (.pair (.int .i64) (.int .i64)))), (false, (.sl (.pair (.pair (.int .i64) (.int .i64)) (.pair (.int .i64) (.pair (.int .i64) (.pair (.int .i64) (.int .i64)))))))] [(false, (.sl (.pair (.int .i64) (.int .i64))))] false x
theorem r21_eq : r21 = m21 := by kernel_rfl

theorem i21_39_sound : i21_39.Sound Try.prog 39 := aInl_sound' (envOf_sound (CSs.nil) (HDs.nil) (IDs.nil)) Try.follows (f := 39) (fn := Try.f39) Try.func39 (by kernel_rfl) (by kernel_rfl)
theorem i21_72_sound : i21_72.Sound Try.prog 72 := aInl_sound' (envOf_sound (CSs.cons c50 (CSs.nil)) (HDs.nil) (IDs.nil)) Try.follows (f := 72) (fn := Try.f72) Try.func72 (by kernel_rfl) (by kernel_rfl)
theorem i21_54_sound : i21_54.Sound Try.prog 54 := aInl_sound' (envOf_sound (CSs.nil) (HDs.nil) (IDs.cons i21_72_sound (IDs.nil))) Try.follows (f := 54) (fn := Try.f54) Try.func54 (by kernel_rfl) (by kernel_rfl)
theorem i21_49_sound : i21_49.Sound Try.prog 49 := aInl_sound' (envOf_sound (CSs.cons c50 (CSs.nil)) (HDs.nil) (IDs.cons i21_54_sound (IDs.nil))) Try.follows (f := 49) (fn := Try.f49) Try.func49 (by kernel_rfl) (by kernel_rfl)
theorem i21_67_sound : i21_67.Sound Try.prog 67 := aInl_sound' (envOf_sound (CSs.cons c68 (CSs.nil)) (HDs.nil) (IDs.nil)) Try.follows (f := 67) (fn := Try.f67) Try.func67 (by kernel_rfl) (by kernel_rfl)
theorem c21 : CS.Sound Try.prog 21 ⟨[(false, (.int .i64)), (false, (.sl (.pair (.int .i64) (.int .i64)))), (false, (.sl (.pair (.pair (.int .i64) (.int .i64)) (.pair (.int .i64) (.pair (.int .i64) (.pair (.int .i64) (.int .i64)))))))], [(false, (.sl (.pair (.int .i64) (.int .i64))))], false, m21⟩ := afun_sound' (envOf_sound (CSs.cons c48 (CSs.cons c50 (CSs.nil))) (HDs.cons (OS.Sound.hd c47) (HDs.nil)) (IDs.cons i21_39_sound (IDs.cons i21_49_sound (IDs.cons i21_67_sound (IDs.nil))))) rfl Try.follows (f := 21) (fn := Try.f21) Try.func21 (by kernel_rfl) (by kernel_rfl) r21_eq

/- Function 18: slipway/slipwayref03.Check. -/
noncomputable def m18 (x : (Int × (Int × (Int × Int))) × Unit) : Option (Int × Unit) :=
  bif (decide (x.1.1 < (1 : Int))) then
    (some ((30 : Int), ()))
  else
    (bif (decide (x.1.1 > (3 : Int))) then
      (some ((30 : Int), ()))
    else
      (bif (decide (x.1.2.1 < (0 : Int))) then
        (some ((30 : Int), ()))
      else
        (bif (decide (x.1.2.1 ≥ (1048576 : Int))) then
          (some ((30 : Int), ()))
        else
          (bif (decide (x.1.2.2.1 < (1 : Int))) then
            (some ((30 : Int), ()))
          else
            (bif (decide (x.1.2.2.2 < x.1.2.2.1)) then
              (some ((30 : Int), ()))
            else
              (bif (decide (x.1.2.2.2 > (1152921504606846976 : Int))) then
                (some ((30 : Int), ()))
              else
                (bif (!(decide (x.1.1 = (1 : Int)))) then
                  (bif (!(decide (x.1.2.2.2 = x.1.2.2.1))) then
                    (some ((30 : Int), ()))
                  else
                    (some ((0 : Int), ())))
                else
                  (some ((0 : Int), ())))))))))

noncomputable def r18 : PDen [(true, (.pair (.int .i64) (.pair (.int .i64) (.pair (.int .i64) (.int .i64)))))] → Option (PDen [(false, (.int .i64))]) := fun x => afun Try.prog (envOf [] [] [] []) ⟨[], []⟩ Try.f18 [(true, (.pair (.int .i64) (.pair (.int .i64) (.pair (.int .i64) (.int .i64)))))] [(false, (.int .i64))] false x
theorem r18_eq : r18 = m18 := by kernel_rfl

theorem c18 : CS.Sound Try.prog 18 ⟨[(true, (.pair (.int .i64) (.pair (.int .i64) (.pair (.int .i64) (.int .i64)))))], [(false, (.int .i64))], false, m18⟩ := afun_sound' (envOf_sound (CSs.nil) (HDs.nil) (IDs.nil)) rfl Try.follows (f := 18) (fn := Try.f18) Try.func18 (by kernel_rfl) (by kernel_rfl) r18_eq

/- Function 22: slipway/slipwaylaw07.number. -/
noncomputable def m22 (x : (Int × (Int × (Int × ((List ((Int × Int) × (Int × (Int × (Int × Int))))) × (List (Int × Int)))))) × Int × (Int × Int) × Unit) : Option (Int × Unit) :=
  Option.bind (loopM (X := (Int × Int)) (E := Int) (fun (x1 : (Int × Int)) =>
      bif (decide (x1.2 < (((List.length x.1.2.2.2.1) : Nat) : Int))) then
        (gd ((0 : Int) ≤ x1.2) (gd (x1.2 < (((List.length x.1.2.2.2.1) : Nat) : Int)) (Option.bind (m18 ((List.getD x.1.2.2.2.1 (Int.toNat x1.2) (((0 : Int), (0 : Int)), ((0 : Int), ((0 : Int), ((0 : Int), (0 : Int)))))).2, ())) fun (y2 : (Int × Unit)) =>
            bif (decide (y2.1 = (0 : Int))) then
              (bif (!(decide ((List.getD x.1.2.2.2.1 (Int.toNat x1.2) (((0 : Int), (0 : Int)), ((0 : Int), ((0 : Int), ((0 : Int), (0 : Int)))))).2.1 = (3 : Int)))) then
                (bif (decide ((List.getD x.1.2.2.2.1 (Int.toNat x1.2) (((0 : Int), (0 : Int)), ((0 : Int), ((0 : Int), ((0 : Int), (0 : Int)))))).2.2.1 = x.2.1)) then
                  (bif ((decide ((List.getD x.1.2.2.2.1 (Int.toNat x1.2) (((0 : Int), (0 : Int)), ((0 : Int), ((0 : Int), ((0 : Int), (0 : Int)))))).1.1 = x.2.2.1.1)) && (decide ((List.getD x.1.2.2.2.1 (Int.toNat x1.2) (((0 : Int), (0 : Int)), ((0 : Int), ((0 : Int), ((0 : Int), (0 : Int)))))).1.2 = x.2.2.1.2))) then
                    (some (Sum.inl ((if (List.getD x.1.2.2.2.1 (Int.toNat x1.2) (((0 : Int), (0 : Int)), ((0 : Int), ((0 : Int), ((0 : Int), (0 : Int)))))).2.2.2.1 > x1.1 then (List.getD x.1.2.2.2.1 (Int.toNat x1.2) (((0 : Int), (0 : Int)), ((0 : Int), ((0 : Int), ((0 : Int), (0 : Int)))))).2.2.2.1 else x1.1), (Go.IntKind.wrap .i64 (x1.2 + (1 : Int))))))
                  else
                    (some (Sum.inl (x1.1, (Go.IntKind.wrap .i64 (x1.2 + (1 : Int)))))))
                else
                  (some (Sum.inl (x1.1, (Go.IntKind.wrap .i64 (x1.2 + (1 : Int)))))))
              else
                (some (Sum.inl (x1.1, (Go.IntKind.wrap .i64 (x1.2 + (1 : Int)))))))
            else
              (some (Sum.inl (x1.1, (Go.IntKind.wrap .i64 (x1.2 + (1 : Int)))))))))
      else
        (some (Sum.inr x1.1))) ((0 : Int), (0 : Int))) fun (y1 : Int) =>
  some (y1, ())

noncomputable def r22 : PDen [(true, (.pair (.int .i64) (.pair (.int .i64) (.pair (.int .i64) (.pair (.sl (.pair (.pair (.int .i64) (.int .i64)) (.pair (.int .i64) (.pair (.int .i64) (.pair (.int .i64) (.int .i64)))))) (.sl (.pair (.int .i64) (.int .i64)))))))), (false, (.int .i64)), (true, (.pair (.int .i64) (.int .i64)))] → Option (PDen [(false, (.int .i64))]) := fun x => afun Try.prog (envOf [(18, ⟨[(true, (.pair (.int .i64) (.pair (.int .i64) (.pair (.int .i64) (.int .i64)))))], [(false, (.int .i64))], false, m18⟩)] [] [] []) ⟨[(0, ⟨[.slot 7 (.d false (.int .i64) true), .slot 13 (.d false (.int .i64) true)], [], [(some 0, [.slot 7 (.d false (.int .i64) true)])], none⟩)], []⟩ Try.f22 [(true, (.pair (.int .i64) (.pair (.int .i64) (.pair (.int .i64) (.pair (.sl (.pair (.pair (.int .i64) (.int .i64)) (.pair (.int .i64) (.pair (.int .i64) (.pair (.int .i64) (.int .i64)))))) (.sl (.pair (.int .i64) (.int .i64)))))))), (false, (.int .i64)), (true, (.pair (.int .i64) (.int .i64)))] [(false, (.int .i64))] false x
theorem r22_eq : r22 = m22 := by kernel_rfl

theorem c22 : CS.Sound Try.prog 22 ⟨[(true, (.pair (.int .i64) (.pair (.int .i64) (.pair (.int .i64) (.pair (.sl (.pair (.pair (.int .i64) (.int .i64)) (.pair (.int .i64) (.pair (.int .i64) (.pair (.int .i64) (.int .i64)))))) (.sl (.pair (.int .i64) (.int .i64)))))))), (false, (.int .i64)), (true, (.pair (.int .i64) (.int .i64)))], [(false, (.int .i64))], false, m22⟩ := afun_sound' (envOf_sound (CSs.cons c18 (CSs.nil)) (HDs.nil) (IDs.nil)) rfl Try.follows (f := 22) (fn := Try.f22) Try.func22 (by kernel_rfl) (by kernel_rfl) r22_eq

/- Function 6: slipway/slipwaylaw07.ScanNew. -/
noncomputable def m6 (x : (Int × (Int × (Int × ((List ((Int × Int) × (Int × (Int × (Int × Int))))) × (List (Int × Int)))))) × Unit) : Option (Bool × Unit) :=
  Option.bind (m11 ()) fun (y1 : (Bool × Unit)) =>
  bif (!y1.1) then
    (some (false, ()))
  else
    (Option.bind (m12 (x.1, ())) fun (y2 : (Bool × Unit)) =>
    bif (!y2.1) then
      (some (true, ()))
    else
      (Option.bind (m14 (x.1.1, (x.1.2.1, (x.1.2.2.2.1, ())))) fun (y3 : ((List (Int × Int)) × Unit)) =>
      Option.bind (m21 (x.1.1, (y3.1, (x.1.2.2.2.1, ())))) fun (y4 : ((List (Int × Int)) × Unit)) =>
      bif (!(decide ((((List.length y4.1) : Nat) : Int) = (((List.length y3.1) : Nat) : Int)))) then
        (some (false, ()))
      else
        (Option.bind (loopM (X := Int) (E := (Unit ⊕ Bool)) (fun (x5 : Int) =>
            bif (decide (x5 < (((List.length y4.1) : Nat) : Int))) then
              (gd ((0 : Int) ≤ x5) (gd (x5 < (((List.length y4.1) : Nat) : Int)) (bif (decide (x5 ≥ (((List.length y3.1) : Nat) : Int))) then
                    (some (Sum.inr (Sum.inr false)))
                  else
                    (gd ((0 : Int) ≤ x5) (gd (x5 < (((List.length y3.1) : Nat) : Int)) (bif (!(bif (decide ((List.getD y4.1 (Int.toNat x5) ((0 : Int), (0 : Int))).1 ≥ (0 : Int))) then (decide ((List.getD y3.1 (Int.toNat x5) ((0 : Int), (0 : Int))).1 ≥ (0 : Int))) else (!(decide ((List.getD y3.1 (Int.toNat x5) ((0 : Int), (0 : Int))).1 ≥ (0 : Int)))))) then
                          (some (Sum.inr (Sum.inr false)))
                        else
                          (bif (decide ((List.getD y4.1 (Int.toNat x5) ((0 : Int), (0 : Int))).1 ≥ (0 : Int))) then
                            (Option.bind (m22 (x.1, (x5, ((List.getD y4.1 (Int.toNat x5) ((0 : Int), (0 : Int))), ())))) fun (y6 : (Int × Unit)) =>
                            gd ((0 : Int) ≤ x5) (gd (x5 < (((List.length y3.1) : Nat) : Int)) (Option.bind (m22 (x.1, (x5, ((List.getD y3.1 (Int.toNat x5) ((0 : Int), (0 : Int))), ())))) fun (y7 : (Int × Unit)) =>
                                bif (decide (y6.1 < y7.1)) then
                                  (some (Sum.inr (Sum.inr false)))
                                else
                                  (some (Sum.inl (Go.IntKind.wrap .i64 (x5 + (1 : Int))))))))
                          else
                            (some (Sum.inl (Go.IntKind.wrap .i64 (x5 + (1 : Int))))))))))))
            else
              (some (Sum.inr (Sum.inl ())))) (0 : Int)) fun (y5 : (Unit ⊕ Bool)) =>
        Sum.elim (fun y6 =>
          some (true, ())) (fun y6 =>
          some (y6, ())) y5)))

noncomputable def r6 : PDen [(true, (.pair (.int .i64) (.pair (.int .i64) (.pair (.int .i64) (.pair (.sl (.pair (.pair (.int .i64) (.int .i64)) (.pair (.int .i64) (.pair (.int .i64) (.pair (.int .i64) (.int .i64)))))) (.sl (.pair (.int .i64) (.int .i64))))))))] → Option (PDen [(false, .bool)]) := fun x => afun Try.prog (envOf [(11, ⟨[], [(false, .bool)], false, m11⟩), (12, ⟨[(true, (.pair (.int .i64) (.pair (.int .i64) (.pair (.int .i64) (.pair (.sl (.pair (.pair (.int .i64) (.int .i64)) (.pair (.int .i64) (.pair (.int .i64) (.pair (.int .i64) (.int .i64)))))) (.sl (.pair (.int .i64) (.int .i64))))))))], [(false, .bool)], false, m12⟩), (14, ⟨[(false, (.int .i64)), (false, (.int .i64)), (false, (.sl (.pair (.pair (.int .i64) (.int .i64)) (.pair (.int .i64) (.pair (.int .i64) (.pair (.int .i64) (.int .i64)))))))], [(false, (.sl (.pair (.int .i64) (.int .i64))))], false, m14⟩), (21, ⟨[(false, (.int .i64)), (false, (.sl (.pair (.int .i64) (.int .i64)))), (false, (.sl (.pair (.pair (.int .i64) (.int .i64)) (.pair (.int .i64) (.pair (.int .i64) (.pair (.int .i64) (.int .i64)))))))], [(false, (.sl (.pair (.int .i64) (.int .i64))))], false, m21⟩), (22, ⟨[(true, (.pair (.int .i64) (.pair (.int .i64) (.pair (.int .i64) (.pair (.sl (.pair (.pair (.int .i64) (.int .i64)) (.pair (.int .i64) (.pair (.int .i64) (.pair (.int .i64) (.int .i64)))))) (.sl (.pair (.int .i64) (.int .i64)))))))), (false, (.int .i64)), (true, (.pair (.int .i64) (.int .i64)))], [(false, (.int .i64))], false, m22⟩)] [] [] []) ⟨[(0, ⟨[.slot 32 (.d false (.int .i64) true)], [], [(some 0, []), (none, [.slot 2 (.d false .bool true)])], none⟩)], []⟩ Try.f6 [(true, (.pair (.int .i64) (.pair (.int .i64) (.pair (.int .i64) (.pair (.sl (.pair (.pair (.int .i64) (.int .i64)) (.pair (.int .i64) (.pair (.int .i64) (.pair (.int .i64) (.int .i64)))))) (.sl (.pair (.int .i64) (.int .i64))))))))] [(false, .bool)] false x
theorem r6_eq : r6 = m6 := by kernel_rfl

theorem c6 : CS.Sound Try.prog 6 ⟨[(true, (.pair (.int .i64) (.pair (.int .i64) (.pair (.int .i64) (.pair (.sl (.pair (.pair (.int .i64) (.int .i64)) (.pair (.int .i64) (.pair (.int .i64) (.pair (.int .i64) (.int .i64)))))) (.sl (.pair (.int .i64) (.int .i64))))))))], [(false, .bool)], false, m6⟩ := afun_sound' (envOf_sound (CSs.cons c11 (CSs.cons c12 (CSs.cons c14 (CSs.cons c21 (CSs.cons c22 (CSs.nil)))))) (HDs.nil) (IDs.nil)) rfl Try.follows (f := 6) (fn := Try.f6) Try.func6 (by kernel_rfl) (by kernel_rfl) r6_eq

/- Function 13: slipway/slipwayref07.SamePlaces. -/
noncomputable def m13 (x : (List (Int × Int)) × (List (Int × Int)) × Unit) : Option (Bool × Unit) :=
  bif (!(decide ((((List.length x.1) : Nat) : Int) = (((List.length x.2.1) : Nat) : Int)))) then
    (some (false, ()))
  else
    (Option.bind (loopM (X := Int) (E := (Unit ⊕ Bool)) (fun (x1 : Int) =>
        bif (decide (x1 < (((List.length x.1) : Nat) : Int))) then
          (gd ((0 : Int) ≤ x1) (gd (x1 < (((List.length x.1) : Nat) : Int)) (gd ((0 : Int) ≤ x1) (gd (x1 < (((List.length x.2.1) : Nat) : Int)) (bif (!((decide ((List.getD x.1 (Int.toNat x1) ((0 : Int), (0 : Int))).1 = (List.getD x.2.1 (Int.toNat x1) ((0 : Int), (0 : Int))).1)) && (decide ((List.getD x.1 (Int.toNat x1) ((0 : Int), (0 : Int))).2 = (List.getD x.2.1 (Int.toNat x1) ((0 : Int), (0 : Int))).2)))) then
                    (some (Sum.inr (Sum.inr false)))
                  else
                    (some (Sum.inl (Go.IntKind.wrap .i64 (x1 + (1 : Int))))))))))
        else
          (some (Sum.inr (Sum.inl ())))) (0 : Int)) fun (y1 : (Unit ⊕ Bool)) =>
    Sum.elim (fun y2 =>
      some (true, ())) (fun y2 =>
      some (y2, ())) y1)

noncomputable def r13 : PDen [(false, (.sl (.pair (.int .i64) (.int .i64)))), (false, (.sl (.pair (.int .i64) (.int .i64))))] → Option (PDen [(false, .bool)]) := fun x => afun Try.prog (envOf [] [] [] []) ⟨[(0, ⟨[.slot 5 (.d false (.int .i64) true)], [], [(some 0, []), (none, [.slot 4 (.d false .bool true)])], none⟩)], []⟩ Try.f13 [(false, (.sl (.pair (.int .i64) (.int .i64)))), (false, (.sl (.pair (.int .i64) (.int .i64))))] [(false, .bool)] false x
theorem r13_eq : r13 = m13 := by kernel_rfl

theorem c13 : CS.Sound Try.prog 13 ⟨[(false, (.sl (.pair (.int .i64) (.int .i64)))), (false, (.sl (.pair (.int .i64) (.int .i64))))], [(false, .bool)], false, m13⟩ := afun_sound' (envOf_sound (CSs.nil) (HDs.nil) (IDs.nil)) rfl Try.follows (f := 13) (fn := Try.f13) Try.func13 (by kernel_rfl) (by kernel_rfl) r13_eq

/- Function 43: slipway/slipwayref05.New. -/
noncomputable def m43 (x : Int × Int × Int × Unit) : Option ((Int × (Int × (Int × ((List Int) × ((List Bool) × ((Int × (Int × Int)) × (List (Int × (List Int))))))))) × (Int × Unit)) :=
  bif (decide (x.1 < (4 : Int))) then
    (some (((0 : Int), ((0 : Int), ((0 : Int), (([] : List Int), (([] : List Bool), (((0 : Int), ((0 : Int), (0 : Int))), ([] : List (Int × (List Int))))))))), ((1 : Int), ())))
  else
    (bif (decide (x.1 > (32 : Int))) then
      (some (((0 : Int), ((0 : Int), ((0 : Int), (([] : List Int), (([] : List Bool), (((0 : Int), ((0 : Int), (0 : Int))), ([] : List (Int × (List Int))))))))), ((1 : Int), ())))
    else
      (bif (decide (x.2.1 < (1 : Int))) then
        (some (((0 : Int), ((0 : Int), ((0 : Int), (([] : List Int), (([] : List Bool), (((0 : Int), ((0 : Int), (0 : Int))), ([] : List (Int × (List Int))))))))), ((1 : Int), ())))
      else
        (bif (decide (x.2.1 > (256 : Int))) then
          (some (((0 : Int), ((0 : Int), ((0 : Int), (([] : List Int), (([] : List Bool), (((0 : Int), ((0 : Int), (0 : Int))), ([] : List (Int × (List Int))))))))), ((1 : Int), ())))
        else
          (bif (decide (x.2.2.1 < (1 : Int))) then
            (some (((0 : Int), ((0 : Int), ((0 : Int), (([] : List Int), (([] : List Bool), (((0 : Int), ((0 : Int), (0 : Int))), ([] : List (Int × (List Int))))))))), ((1 : Int), ())))
          else
            (bif (decide (x.2.2.1 > (8 : Int))) then
              (some (((0 : Int), ((0 : Int), ((0 : Int), (([] : List Int), (([] : List Bool), (((0 : Int), ((0 : Int), (0 : Int))), ([] : List (Int × (List Int))))))))), ((1 : Int), ())))
            else
              (Option.bind (loopM (X := (Int × (Int × (Int × (Int × ((List Int) × ((List Bool) × (Int × (Int × (Int × (List (Int × (List Int))))))))))))) (E := (Int × (Int × (Int × ((List Int) × ((List Bool) × (Int × (Int × (Int × (List (Int × (List Int)))))))))))) (fun (x1 : (Int × (Int × (Int × (Int × ((List Int) × ((List Bool) × (Int × (Int × (Int × (List (Int × (List Int))))))))))))) =>
                  bif (decide (x1.1 < x.2.1)) then
                    (gd ((((List.length x1.2.2.2.2.1) + (List.length ((-1 : Int) :: ([] : List Int)))) * 8) ≤ 140737488355328) (gd (((List.length x1.2.2.2.2.1) + (List.length ((-1 : Int) :: ([] : List Int)))) ≤ 140737488355328) (some (Sum.inl ((Go.IntKind.wrap .i64 (x1.1 + (1 : Int))), (x1.2.1, (x1.2.2.1, (x1.2.2.2.1, ((x1.2.2.2.2.1 ++ ((-1 : Int) :: ([] : List Int))), (x1.2.2.2.2.2.1, (x1.2.2.2.2.2.2.1, (x1.2.2.2.2.2.2.2.1, (x1.2.2.2.2.2.2.2.2.1, x1.2.2.2.2.2.2.2.2.2)))))))))))))
                  else
                    (some (Sum.inr (x1.2.1, (x1.2.2.1, (x1.2.2.2.1, (x1.2.2.2.2.1, (x1.2.2.2.2.2.1, (x1.2.2.2.2.2.2.1, (x1.2.2.2.2.2.2.2.1, (x1.2.2.2.2.2.2.2.2.1, x1.2.2.2.2.2.2.2.2.2))))))))))) ((0 : Int), (x.1, (x.2.1, (x.2.2.1, (([] : List Int), (([] : List Bool), ((0 : Int), ((0 : Int), ((0 : Int), ([] : List (Int × (List Int))))))))))))) fun (y1 : (Int × (Int × (Int × ((List Int) × ((List Bool) × (Int × (Int × (Int × (List (Int × (List Int)))))))))))) =>
              gd ((0 : Int) ≤ (Go.IntKind.wrap .i64 (x.1 * x.2.1))) (gd ((Go.IntKind.wrap .i64 (x.1 * x.2.1)) ≤ (Go.IntKind.wrap .i64 (x.1 * x.2.1))) (gd (((Go.IntKind.wrap .i64 (x.1 * x.2.1)) * (1 : Int)) ≤ (140737488355328 : Int)) (some ((y1.1, (y1.2.1, (y1.2.2.1, (y1.2.2.2.1, ((List.replicate (Int.toNat (Go.IntKind.wrap .i64 (x.1 * x.2.1))) false), (((-1 : Int), (y1.2.2.2.2.2.2.1, y1.2.2.2.2.2.2.2.1)), y1.2.2.2.2.2.2.2.2)))))), ((0 : Int), ())))))))))))

noncomputable def r43 : PDen [(false, (.int .i64)), (false, (.int .i64)), (false, (.int .i64))] → Option (PDen [(true, (.pair (.int .i64) (.pair (.int .i64) (.pair (.int .i64) (.pair (.sl (.int .i64)) (.pair (.sl .bool) (.pair (.pair (.int .i64) (.pair (.int .i64) (.int .i64))) (.sl (.pair (.int .i64) (.sl (.int .i64))))))))))), (false, (.int .i64))]) := fun x => afun Try.prog (envOf [] [] [] []) ⟨[(0, ⟨[.slot 9 (.d false (.int .i64) true), .cell 1 0 (.d false (.int .i64) true), .cell 1 1 (.d false (.int .i64) true), .cell 1 2 (.d false (.int .i64) true), .cell 1 3 (.v 3 (.int .i64) true), .cell 1 4 (.d false (.sl .bool) false), .cell 1 5 (.d false (.int .i64) true), .cell 1 6 (.d false (.int .i64) true), .cell 1 7 (.d false (.int .i64) true), .cell 1 8 (.d false (.sl (.pair (.int .i64) (.sl (.int .i64)))) false)], [], [(some 0, [.cell 1 0 (.d false (.int .i64) true), .cell 1 1 (.d false (.int .i64) true), .cell 1 2 (.d false (.int .i64) true), .cell 1 3 (.v 3 (.int .i64) true), .cell 1 4 (.d false (.sl .bool) false), .cell 1 5 (.d false (.int .i64) true), .cell 1 6 (.d false (.int .i64) true), .cell 1 7 (.d false (.int .i64) true), .cell 1 8 (.d false (.sl (.pair (.int .i64) (.sl (.int .i64)))) false)])], none⟩)], []⟩ Try.f43 [(false, (.int .i64)), (false, (.int .i64)), (false, (.int .i64))] [(true, (.pair (.int .i64) (.pair (.int .i64) (.pair (.int .i64) (.pair (.sl (.int .i64)) (.pair (.sl .bool) (.pair (.pair (.int .i64) (.pair (.int .i64) (.int .i64))) (.sl (.pair (.int .i64) (.sl (.int .i64))))))))))), (false, (.int .i64))] true x
theorem r43_eq : r43 = m43 := by kernel_rfl

theorem c43 : CS.Sound Try.prog 43 ⟨[(false, (.int .i64)), (false, (.int .i64)), (false, (.int .i64))], [(true, (.pair (.int .i64) (.pair (.int .i64) (.pair (.int .i64) (.pair (.sl (.int .i64)) (.pair (.sl .bool) (.pair (.pair (.int .i64) (.pair (.int .i64) (.int .i64))) (.sl (.pair (.int .i64) (.sl (.int .i64))))))))))), (false, (.int .i64))], true, m43⟩ := afun_sound' (envOf_sound (CSs.nil) (HDs.nil) (IDs.nil)) rfl Try.follows (f := 43) (fn := Try.f43) Try.func43 (by kernel_rfl) (by kernel_rfl) r43_eq

/- Function 44: slipway/slipwayref07.counts. -/
noncomputable def m44 (x : Int × ((Int × Int) × (Int × (Int × (Int × Int)))) × Unit) : Option (Bool × Unit) :=
  Option.bind (m18 (x.2.1.2, ())) fun (y1 : (Int × Unit)) =>
  bif (decide (y1.1 = (0 : Int))) then
    (bif (!(decide (x.2.1.2.1 = (3 : Int)))) then
      (bif (decide (x.2.1.1.1 ≥ (0 : Int))) then
        (bif (decide (x.2.1.1.1 < (256 : Int))) then
          (bif (decide (x.2.1.1.2 ≥ (0 : Int))) then
            (some ((decide (x.2.1.1.2 < x.1)), ()))
          else
            (some (false, ())))
        else
          (some (false, ())))
      else
        (some (false, ())))
    else
      (some (false, ())))
  else
    (some (false, ()))

noncomputable def r44 : PDen [(false, (.int .i64)), (true, (.pair (.pair (.int .i64) (.int .i64)) (.pair (.int .i64) (.pair (.int .i64) (.pair (.int .i64) (.int .i64))))))] → Option (PDen [(false, .bool)]) := fun x => afun Try.prog (envOf [(18, ⟨[(true, (.pair (.int .i64) (.pair (.int .i64) (.pair (.int .i64) (.int .i64)))))], [(false, (.int .i64))], false, m18⟩)] [] [] []) ⟨[], []⟩ Try.f44 [(false, (.int .i64)), (true, (.pair (.pair (.int .i64) (.int .i64)) (.pair (.int .i64) (.pair (.int .i64) (.pair (.int .i64) (.int .i64))))))] [(false, .bool)] false x
theorem r44_eq : r44 = m44 := by kernel_rfl

theorem c44 : CS.Sound Try.prog 44 ⟨[(false, (.int .i64)), (true, (.pair (.pair (.int .i64) (.int .i64)) (.pair (.int .i64) (.pair (.int .i64) (.pair (.int .i64) (.int .i64))))))], [(false, .bool)], false, m44⟩ := afun_sound' (envOf_sound (CSs.cons c18 (CSs.nil)) (HDs.nil) (IDs.nil)) rfl Try.follows (f := 44) (fn := Try.f44) Try.func44 (by kernel_rfl) (by kernel_rfl) r44_eq

/- Function 71: slipway/slipwayref03.Newer. -/
noncomputable def m71 (x : (Int × (Int × (Int × Int))) × (Int × (Int × (Int × Int))) × Unit) : Option (Bool × Unit) :=
  bif (decide (x.1.2.2.1 > x.2.1.2.2.1)) then
    (some (true, ()))
  else
    (bif (decide (x.1.2.2.1 = x.2.1.2.2.1)) then
      (some ((decide (x.1.2.2.2 < x.2.1.2.2.2)), ()))
    else
      (some (false, ())))

noncomputable def r71 : PDen [(true, (.pair (.int .i64) (.pair (.int .i64) (.pair (.int .i64) (.int .i64))))), (true, (.pair (.int .i64) (.pair (.int .i64) (.pair (.int .i64) (.int .i64)))))] → Option (PDen [(false, .bool)]) := fun x => afun Try.prog (envOf [] [] [] []) ⟨[], []⟩ Try.f71 [(true, (.pair (.int .i64) (.pair (.int .i64) (.pair (.int .i64) (.int .i64))))), (true, (.pair (.int .i64) (.pair (.int .i64) (.pair (.int .i64) (.int .i64)))))] [(false, .bool)] false x
theorem r71_eq : r71 = m71 := by kernel_rfl

theorem c71 : CS.Sound Try.prog 71 ⟨[(true, (.pair (.int .i64) (.pair (.int .i64) (.pair (.int .i64) (.int .i64))))), (true, (.pair (.int .i64) (.pair (.int .i64) (.pair (.int .i64) (.int .i64)))))], [(false, .bool)], false, m71⟩ := afun_sound' (envOf_sound (CSs.nil) (HDs.nil) (IDs.nil)) rfl Try.follows (f := 71) (fn := Try.f71) Try.func71 (by kernel_rfl) (by kernel_rfl) r71_eq

/- Function 45: slipway/slipwayref07.less. -/
noncomputable def m45 (x : ((Int × Int) × (Int × (Int × (Int × Int)))) × ((Int × Int) × (Int × (Int × (Int × Int)))) × Unit) : Option (Bool × Unit) :=
  Option.bind (m71 (x.1.2, (x.2.1.2, ()))) fun (y1 : (Bool × Unit)) =>
  bif y1.1 then
    (Option.bind (m71 (x.1.2, (x.2.1.2, ()))) fun (y2 : (Bool × Unit)) =>
    some (y2.1, ()))
  else
    (Option.bind (m71 (x.2.1.2, (x.1.2, ()))) fun (y2 : (Bool × Unit)) =>
    bif y2.1 then
      (Option.bind (m71 (x.1.2, (x.2.1.2, ()))) fun (y3 : (Bool × Unit)) =>
      some (y3.1, ()))
    else
      (bif (decide (x.1.1.1 < x.2.1.1.1)) then
        (some (true, ()))
      else
        (bif (decide (x.1.1.1 = x.2.1.1.1)) then
          (some ((decide (x.1.1.2 < x.2.1.1.2)), ()))
        else
          (some (false, ())))))

noncomputable def r45 : PDen [(true, (.pair (.pair (.int .i64) (.int .i64)) (.pair (.int .i64) (.pair (.int .i64) (.pair (.int .i64) (.int .i64)))))), (true, (.pair (.pair (.int .i64) (.int .i64)) (.pair (.int .i64) (.pair (.int .i64) (.pair (.int .i64) (.int .i64))))))] → Option (PDen [(false, .bool)]) := fun x => afun Try.prog (envOf [(71, ⟨[(true, (.pair (.int .i64) (.pair (.int .i64) (.pair (.int .i64) (.int .i64))))), (true, (.pair (.int .i64) (.pair (.int .i64) (.pair (.int .i64) (.int .i64)))))], [(false, .bool)], false, m71⟩)] [] [] []) ⟨[], []⟩ Try.f45 [(true, (.pair (.pair (.int .i64) (.int .i64)) (.pair (.int .i64) (.pair (.int .i64) (.pair (.int .i64) (.int .i64)))))), (true, (.pair (.pair (.int .i64) (.int .i64)) (.pair (.int .i64) (.pair (.int .i64) (.pair (.int .i64) (.int .i64))))))] [(false, .bool)] false x
theorem r45_eq : r45 = m45 := by kernel_rfl

theorem c45 : CS.Sound Try.prog 45 ⟨[(true, (.pair (.pair (.int .i64) (.int .i64)) (.pair (.int .i64) (.pair (.int .i64) (.pair (.int .i64) (.int .i64)))))), (true, (.pair (.pair (.int .i64) (.int .i64)) (.pair (.int .i64) (.pair (.int .i64) (.pair (.int .i64) (.int .i64))))))], [(false, .bool)], false, m45⟩ := afun_sound' (envOf_sound (CSs.cons c71 (CSs.nil)) (HDs.nil) (IDs.nil)) rfl Try.follows (f := 45) (fn := Try.f45) Try.func45 (by kernel_rfl) (by kernel_rfl) r45_eq

/- Function 15: slipway/slipwayref07.Newest. -/
noncomputable def m15 (x : Int × Int × (List ((Int × Int) × (Int × (Int × (Int × Int))))) × Unit) : Option ((List (Int × Int)) × Unit) :=
  Option.bind (m43 (x.1, (x.2.1, ((1 : Int), ())))) fun (y1 : ((Int × (Int × (Int × ((List Int) × ((List Bool) × ((Int × (Int × Int)) × (List (Int × (List Int))))))))) × (Int × Unit))) =>
  bif (!(decide (y1.2.1 = (0 : Int)))) then
    (some (([] : List (Int × Int)), ()))
  else
    (Option.bind (loopM (X := ((List (Int × Int)) × Int)) (E := (List (Int × Int))) (fun (x2 : ((List (Int × Int)) × Int)) =>
        bif (decide (x2.2 < (Go.IntKind.wrap .i64 (x.1 * x.2.1)))) then
          (Option.bind (loopM (X := (Int × Int)) (E := Int) (fun (x3 : (Int × Int)) =>
              bif (decide (x3.2 < (((List.length x.2.2.1) : Nat) : Int))) then
                (gd ((0 : Int) ≤ x3.2) (gd (x3.2 < (((List.length x.2.2.1) : Nat) : Int)) (Option.bind (m44 (x.1, ((List.getD x.2.2.1 (Int.toNat x3.2) (((0 : Int), (0 : Int)), ((0 : Int), ((0 : Int), ((0 : Int), (0 : Int)))))), ()))) fun (y4 : (Bool × Unit)) =>
                    bif y4.1 then
                      (bif (decide ((List.getD x.2.2.1 (Int.toNat x3.2) (((0 : Int), (0 : Int)), ((0 : Int), ((0 : Int), ((0 : Int), (0 : Int)))))).2.2.1 = x2.2)) then
                        (bif (decide (x3.1 < (0 : Int))) then
                          (some (Sum.inl (x3.2, (Go.IntKind.wrap .i64 (x3.2 + (1 : Int))))))
                        else
                          (gd ((0 : Int) ≤ x3.1) (gd (x3.1 < (((List.length x.2.2.1) : Nat) : Int)) (Option.bind (m45 ((List.getD x.2.2.1 (Int.toNat x3.2) (((0 : Int), (0 : Int)), ((0 : Int), ((0 : Int), ((0 : Int), (0 : Int)))))), ((List.getD x.2.2.1 (Int.toNat x3.1) (((0 : Int), (0 : Int)), ((0 : Int), ((0 : Int), ((0 : Int), (0 : Int)))))), ()))) fun (y5 : (Bool × Unit)) =>
                              bif y5.1 then
                                (some (Sum.inl (x3.2, (Go.IntKind.wrap .i64 (x3.2 + (1 : Int))))))
                              else
                                (some (Sum.inl (x3.1, (Go.IntKind.wrap .i64 (x3.2 + (1 : Int))))))))))
                      else
                        (some (Sum.inl (x3.1, (Go.IntKind.wrap .i64 (x3.2 + (1 : Int)))))))
                    else
                      (some (Sum.inl (x3.1, (Go.IntKind.wrap .i64 (x3.2 + (1 : Int)))))))))
              else
                (some (Sum.inr x3.1))) ((-1 : Int), (0 : Int))) fun (y3 : Int) =>
          bif (decide (y3 < (0 : Int))) then
            (gd ((((List.length x2.1) + (List.length (((-1 : Int), (0 : Int)) :: ([] : List (Int × Int))))) * 16) ≤ 140737488355328) (gd (((List.length x2.1) + (List.length (((-1 : Int), (0 : Int)) :: ([] : List (Int × Int))))) ≤ 140737488355328) (some (Sum.inl ((x2.1 ++ (((-1 : Int), (0 : Int)) :: ([] : List (Int × Int)))), (Go.IntKind.wrap .i64 (x2.2 + (1 : Int))))))))
          else
            (gd ((0 : Int) ≤ y3) (gd (y3 < (((List.length x.2.2.1) : Nat) : Int)) (gd ((((List.length x2.1) + (List.length ((List.getD x.2.2.1 (Int.toNat y3) (((0 : Int), (0 : Int)), ((0 : Int), ((0 : Int), ((0 : Int), (0 : Int)))))).1 :: ([] : List (Int × Int))))) * 16) ≤ 140737488355328) (gd (((List.length x2.1) + (List.length ((List.getD x.2.2.1 (Int.toNat y3) (((0 : Int), (0 : Int)), ((0 : Int), ((0 : Int), ((0 : Int), (0 : Int)))))).1 :: ([] : List (Int × Int))))) ≤ 140737488355328) (some (Sum.inl ((x2.1 ++ ((List.getD x.2.2.1 (Int.toNat y3) (((0 : Int), (0 : Int)), ((0 : Int), ((0 : Int), ((0 : Int), (0 : Int)))))).1 :: ([] : List (Int × Int)))), (Go.IntKind.wrap .i64 (x2.2 + (1 : Int)))))))))))
        else
          (some (Sum.inr x2.1))) (([] : List (Int × Int)), (0 : Int))) fun (y2 : (List (Int × Int))) =>
    some (y2, ()))

noncomputable def r15 : PDen [(false, (.int .i64)), (false, (.int .i64)), (false, (.sl (.pair (.pair (.int .i64) (.int .i64)) (.pair (.int .i64) (.pair (.int .i64) (.pair (.int .i64) (.int .i64)))))))] → Option (PDen [(false, (.sl (.pair (.int .i64) (.int .i64))))]) := fun x => afun Try.prog (envOf [(43, ⟨[(false, (.int .i64)), (false, (.int .i64)), (false, (.int .i64))], [(true, (.pair (.int .i64) (.pair (.int .i64) (.pair (.int .i64) (.pair (.sl (.int .i64)) (.pair (.sl .bool) (.pair (.pair (.int .i64) (.pair (.int .i64) (.int .i64))) (.sl (.pair (.int .i64) (.sl (.int .i64))))))))))), (false, (.int .i64))], true, m43⟩), (44, ⟨[(false, (.int .i64)), (true, (.pair (.pair (.int .i64) (.int .i64)) (.pair (.int .i64) (.pair (.int .i64) (.pair (.int .i64) (.int .i64))))))], [(false, .bool)], false, m44⟩), (45, ⟨[(true, (.pair (.pair (.int .i64) (.int .i64)) (.pair (.int .i64) (.pair (.int .i64) (.pair (.int .i64) (.int .i64)))))), (true, (.pair (.pair (.int .i64) (.int .i64)) (.pair (.int .i64) (.pair (.int .i64) (.pair (.int .i64) (.int .i64))))))], [(false, .bool)], false, m45⟩)] [] [] []) ⟨[(0, ⟨[.slot 9 (.v 34 (.pair (.int .i64) (.int .i64)) true), .slot 10 (.d false (.int .i64) true)], [], [(some 0, [.slot 9 (.v 34 (.pair (.int .i64) (.int .i64)) true)])], none⟩), (2, ⟨[.slot 11 (.d false (.int .i64) true), .slot 12 (.d false (.int .i64) true)], [], [(some 2, [.slot 11 (.d false (.int .i64) true)])], none⟩)], []⟩ Try.f15 [(false, (.int .i64)), (false, (.int .i64)), (false, (.sl (.pair (.pair (.int .i64) (.int .i64)) (.pair (.int .i64) (.pair (.int .i64) (.pair (.int .i64) (.int .i64)))))))] [(false, (.sl (.pair (.int .i64) (.int .i64))))] false x
theorem r15_eq : r15 = m15 := by kernel_rfl

theorem c15 : CS.Sound Try.prog 15 ⟨[(false, (.int .i64)), (false, (.int .i64)), (false, (.sl (.pair (.pair (.int .i64) (.int .i64)) (.pair (.int .i64) (.pair (.int .i64) (.pair (.int .i64) (.int .i64)))))))], [(false, (.sl (.pair (.int .i64) (.int .i64))))], false, m15⟩ := afun_sound' (envOf_sound (CSs.cons c43 (CSs.cons c44 (CSs.cons c45 (CSs.nil)))) (HDs.nil) (IDs.nil)) rfl Try.follows (f := 15) (fn := Try.f15) Try.func15 (by kernel_rfl) (by kernel_rfl) r15_eq

/- Function 17: slipway/slipwayref07.Greatest. -/
noncomputable def m17 (x : (List ((Int × Int) × (Int × (Int × (Int × Int))))) × Unit) : Option (Int × Unit) :=
  Option.bind (loopM (X := (Int × Int)) (E := Int) (fun (x1 : (Int × Int)) =>
      bif (decide (x1.2 < (((List.length x.1) : Nat) : Int))) then
        (gd ((0 : Int) ≤ x1.2) (gd (x1.2 < (((List.length x.1) : Nat) : Int)) (Option.bind (m18 ((List.getD x.1 (Int.toNat x1.2) (((0 : Int), (0 : Int)), ((0 : Int), ((0 : Int), ((0 : Int), (0 : Int)))))).2, ())) fun (y2 : (Int × Unit)) =>
            bif (decide (y2.1 = (0 : Int))) then
              (gd ((0 : Int) ≤ x1.2) (gd (x1.2 < (((List.length x.1) : Nat) : Int)) (some (Sum.inl ((if (List.getD x.1 (Int.toNat x1.2) (((0 : Int), (0 : Int)), ((0 : Int), ((0 : Int), ((0 : Int), (0 : Int)))))).2.2.2.2 > x1.1 then (List.getD x.1 (Int.toNat x1.2) (((0 : Int), (0 : Int)), ((0 : Int), ((0 : Int), ((0 : Int), (0 : Int)))))).2.2.2.2 else x1.1), (Go.IntKind.wrap .i64 (x1.2 + (1 : Int))))))))
            else
              (some (Sum.inl (x1.1, (Go.IntKind.wrap .i64 (x1.2 + (1 : Int)))))))))
      else
        (some (Sum.inr x1.1))) ((0 : Int), (0 : Int))) fun (y1 : Int) =>
  some (y1, ())

noncomputable def r17 : PDen [(false, (.sl (.pair (.pair (.int .i64) (.int .i64)) (.pair (.int .i64) (.pair (.int .i64) (.pair (.int .i64) (.int .i64)))))))] → Option (PDen [(false, (.int .i64))]) := fun x => afun Try.prog (envOf [(18, ⟨[(true, (.pair (.int .i64) (.pair (.int .i64) (.pair (.int .i64) (.int .i64)))))], [(false, (.int .i64))], false, m18⟩)] [] [] []) ⟨[(0, ⟨[.slot 3 (.d false (.int .i64) true), .slot 4 (.d false (.int .i64) true)], [], [(some 0, [.slot 3 (.d false (.int .i64) true)])], none⟩)], []⟩ Try.f17 [(false, (.sl (.pair (.pair (.int .i64) (.int .i64)) (.pair (.int .i64) (.pair (.int .i64) (.pair (.int .i64) (.int .i64)))))))] [(false, (.int .i64))] false x
theorem r17_eq : r17 = m17 := by kernel_rfl

theorem c17 : CS.Sound Try.prog 17 ⟨[(false, (.sl (.pair (.pair (.int .i64) (.int .i64)) (.pair (.int .i64) (.pair (.int .i64) (.pair (.int .i64) (.int .i64)))))))], [(false, (.int .i64))], false, m17⟩ := afun_sound' (envOf_sound (CSs.cons c18 (CSs.nil)) (HDs.nil) (IDs.nil)) rfl Try.follows (f := 17) (fn := Try.f17) Try.func17 (by kernel_rfl) (by kernel_rfl) r17_eq

/- Function 19: slices.Clone[[]slipway/api.Found,slipway/api.Found]. -/
noncomputable def m19 (x : (List ((Int × Int) × (Int × (Int × (Int × Int))))) × Unit) : Option (List ((Int × Int) × (Int × (Int × (Int × Int))))) :=
  both (bif (decide ((((List.length x.1) : Nat) : Int) = (0 : Int))) then
      (some ([] : List ((Int × Int) × (Int × (Int × (Int × Int))))))
    else
      (gd ((((List.length ([] : List ((Int × Int) × (Int × (Int × (Int × Int)))))) + (List.length x.1)) * 48) ≤ 140737488355328) (gd (((List.length ([] : List ((Int × Int) × (Int × (Int × (Int × Int)))))) + (List.length x.1)) ≤ 140737488355328) (some (([] : List ((Int × Int) × (Int × (Int × (Int × Int))))) ++ x.1))))) (gd ((((List.length ([] : List ((Int × Int) × (Int × (Int × (Int × Int)))))) + (List.length x.1)) * 48) ≤ 140737488355328) (gd (((List.length ([] : List ((Int × Int) × (Int × (Int × (Int × Int)))))) + (List.length x.1)) ≤ 140737488355328) (some (([] : List ((Int × Int) × (Int × (Int × (Int × Int))))) ++ x.1))))

noncomputable def r19 : PDen [(false, (.sl (.pair (.pair (.int .i64) (.int .i64)) (.pair (.int .i64) (.pair (.int .i64) (.pair (.int .i64) (.int .i64)))))))] → Option (List (K.den (.pair (.pair (.int .i64) (.int .i64)) (.pair (.int .i64) (.pair (.int .i64) (.pair (.int .i64) (.int .i64))))))) := fun x => afunO Try.prog (envOf [] [] [] []) ⟨[], []⟩ Try.f19 [(false, (.sl (.pair (.pair (.int .i64) (.int .i64)) (.pair (.int .i64) (.pair (.int .i64) (.pair (.int .i64) (.int .i64)))))))] 40 (.pair (.pair (.int .i64) (.int .i64)) (.pair (.int .i64) (.pair (.int .i64) (.pair (.int .i64) (.int .i64))))) false x
theorem r19_eq : r19 = m19 := by kernel_rfl

theorem c19 : OS.Sound Try.prog 19 ⟨[(false, (.sl (.pair (.pair (.int .i64) (.int .i64)) (.pair (.int .i64) (.pair (.int .i64) (.pair (.int .i64) (.int .i64)))))))], 40, (.pair (.pair (.int .i64) (.int .i64)) (.pair (.int .i64) (.pair (.int .i64) (.pair (.int .i64) (.int .i64))))), false, m19⟩ := afunO_sound' (envOf_sound (CSs.nil) (HDs.nil) (IDs.nil)) rfl Try.follows (f := 19) (fn := Try.f19) Try.func19 (by kernel_rfl) (by kernel_rfl) r19_eq
end Go.Proofs.Ytefekolpfklhdaa
