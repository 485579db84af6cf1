/- What the functions of this claim compute, each shown by the kernel, and what that comes to, with no program in sight. No condition. -/
import Derived.Test.YtmengjdjjnhajaaProg
import Derived.Test.YtmengjdjjnhajaaAmc
import Derived.Test.YtmengjdjjnhajaaAmd
import Derived.KernelRfl
import Derived.Laws.Externs
import Derived.Test.YtmengjdjjnhajaaAmb
set_option maxRecDepth 2000
set_option linter.unusedVariables false
set_option linter.unusedSimpArgs false
section
/- What the functions' contracts share. -/
namespace Go.Proofs.Ytmengjdjjnhajaa
theorem Try.follows : Try.prog.follows .mixedOrders = true := by kernel_rfl
end Go.Proofs.Ytmengjdjjnhajaa
end

section
/- What function 34 ((*slipway/disk.RAM).none) computes, by the kernel. -/
open Go Go.Proofs.AM
namespace Go.Proofs.Ytmengjdjjnhajaa

noncomputable def m34 (x : ((List (List Int)) × ((List Bool) × (Bool × (Bool × (Int × (Int × (List (Int × (List Int))))))))) × Unit) : Option (Bool × Unit) :=
  some ((decide ((((List.length x.1.1) : Nat) : Int) = (0 : Int))), ())

noncomputable def r34 : PDen [(false, (.rp (.pair (.sl (.sl (.int .u8))) (.pair (.sl .bool) (.pair .bool (.pair .bool (.pair (.int .i64) (.pair (.int .i64) (.sl (.pair (.int .i64) (.sl (.int .u8))))))))))))] → Option (PDen [(false, .bool)]) := fun x => afun Try.prog (envOf [] [] [] []) ⟨[], []⟩ Try.f34 [(false, (.rp (.pair (.sl (.sl (.int .u8))) (.pair (.sl .bool) (.pair .bool (.pair .bool (.pair (.int .i64) (.pair (.int .i64) (.sl (.pair (.int .i64) (.sl (.int .u8))))))))))))] [(false, .bool)] false x
theorem r34_eq : r34 = m34 := by kernel_rfl

theorem c34 : CS.Sound Try.prog 34 ⟨[(false, (.rp (.pair (.sl (.sl (.int .u8))) (.pair (.sl .bool) (.pair .bool (.pair .bool (.pair (.int .i64) (.pair (.int .i64) (.sl (.pair (.int .i64) (.sl (.int .u8))))))))))))], [(false, .bool)], false, m34⟩ := afun_sound' (envOf_sound (CSs.nil) (HDs.nil) (IDs.nil)) rfl Try.follows (f := 34) (fn := Try.f34) Try.func34 (by kernel_rfl) (by kernel_rfl) r34_eq
end Go.Proofs.Ytmengjdjjnhajaa
end

section
/- What function 35 ((*slipway/disk.RAM).can) computes, by the kernel. -/
open Go Go.Proofs.AM
namespace Go.Proofs.Ytmengjdjjnhajaa

noncomputable def m35 (x : ((List (List Int)) × ((List Bool) × (Bool × (Bool × (Int × (Int × (List (Int × (List Int))))))))) × Unit) : Option (Int × Unit) :=
  Option.bind (m34 (x.1, ())) fun (y1 : (Bool × Unit)) =>
  bif y1.1 then
    (some ((2 : Int), ()))
  else
    (bif x.1.2.2.1 then
      (some ((8 : Int), ()))
    else
      (some ((0 : Int), ())))

noncomputable def r35 : PDen [(false, (.rp (.pair (.sl (.sl (.int .u8))) (.pair (.sl .bool) (.pair .bool (.pair .bool (.pair (.int .i64) (.pair (.int .i64) (.sl (.pair (.int .i64) (.sl (.int .u8))))))))))))] → Option (PDen [(false, (.int .i64))]) := fun x => afun Try.prog (envOf [(34, ⟨[(false, (.rp (.pair (.sl (.sl (.int .u8))) (.pair (.sl .bool) (.pair .bool (.pair .bool (.pair (.int .i64) (.pair (.int .i64) (.sl (.pair (.int .i64) (.sl (.int .u8))))))))))))], [(false, .bool)], false, m34⟩)] [] [] []) ⟨[], []⟩ Try.f35 [(false, (.rp (.pair (.sl (.sl (.int .u8))) (.pair (.sl .bool) (.pair .bool (.pair .bool (.pair (.int .i64) (.pair (.int .i64) (.sl (.pair (.int .i64) (.sl (.int .u8))))))))))))] [(false, (.int .i64))] false x
theorem r35_eq : r35 = m35 := by kernel_rfl

theorem c35 : CS.Sound Try.prog 35 ⟨[(false, (.rp (.pair (.sl (.sl (.int .u8))) (.pair (.sl .bool) (.pair .bool (.pair .bool (.pair (.int .i64) (.pair (.int .i64) (.sl (.pair (.int .i64) (.sl (.int .u8))))))))))))], [(false, (.int .i64))], false, m35⟩ := afun_sound' (envOf_sound (CSs.cons c34 (CSs.nil)) (HDs.nil) (IDs.nil)) rfl Try.follows (f := 35) (fn := Try.f35) Try.func35 (by kernel_rfl) (by kernel_rfl) r35_eq
end Go.Proofs.Ytmengjdjjnhajaa
end

section
/- What function 14 ((*slipway/disk.RAM).On) computes, by the kernel. -/
open Go Go.Proofs.AM
namespace Go.Proofs.Ytmengjdjjnhajaa

noncomputable def m14 (x : ((List (List Int)) × ((List Bool) × (Bool × (Bool × (Int × (Int × (List (Int × (List Int))))))))) × Unit) : Option (Bool × Unit) :=
  Option.bind (m35 (x.1, ())) fun (y1 : (Int × Unit)) =>
  some ((decide (y1.1 = (0 : Int))), ())

noncomputable def r14 : PDen [(false, (.rp (.pair (.sl (.sl (.int .u8))) (.pair (.sl .bool) (.pair .bool (.pair .bool (.pair (.int .i64) (.pair (.int .i64) (.sl (.pair (.int .i64) (.sl (.int .u8))))))))))))] → Option (PDen [(false, .bool)]) := fun x => afun Try.prog (envOf [(35, ⟨[(false, (.rp (.pair (.sl (.sl (.int .u8))) (.pair (.sl .bool) (.pair .bool (.pair .bool (.pair (.int .i64) (.pair (.int .i64) (.sl (.pair (.int .i64) (.sl (.int .u8))))))))))))], [(false, (.int .i64))], false, m35⟩)] [] [] []) ⟨[], []⟩ Try.f14 [(false, (.rp (.pair (.sl (.sl (.int .u8))) (.pair (.sl .bool) (.pair .bool (.pair .bool (.pair (.int .i64) (.pair (.int .i64) (.sl (.pair (.int .i64) (.sl (.int .u8))))))))))))] [(false, .bool)] false x
theorem r14_eq : r14 = m14 := by kernel_rfl

theorem c14 : CS.Sound Try.prog 14 ⟨[(false, (.rp (.pair (.sl (.sl (.int .u8))) (.pair (.sl .bool) (.pair .bool (.pair .bool (.pair (.int .i64) (.pair (.int .i64) (.sl (.pair (.int .i64) (.sl (.int .u8))))))))))))], [(false, .bool)], false, m14⟩ := afun_sound' (envOf_sound (CSs.cons c35 (CSs.nil)) (HDs.nil) (IDs.nil)) rfl Try.follows (f := 14) (fn := Try.f14) Try.func14 (by kernel_rfl) (by kernel_rfl) r14_eq
end Go.Proofs.Ytmengjdjjnhajaa
end

section
/- What function 56 (math/bits.Mul32) computes, by the kernel. -/
open Go Go.Proofs.AM
namespace Go.Proofs.Ytmengjdjjnhajaa

noncomputable def m56 (x : Int × Int × Unit) : Option (Int × (Int × Unit)) :=
  some ((Go.IntKind.wrap .u32 (ishr .u64 (Go.IntKind.wrap .u64 ((Go.IntKind.wrap .u64 x.1) * (Go.IntKind.wrap .u64 x.2.1))) (32 : Int))), ((Go.IntKind.wrap .u32 (Go.IntKind.wrap .u64 ((Go.IntKind.wrap .u64 x.1) * (Go.IntKind.wrap .u64 x.2.1)))), ()))

noncomputable def r56 : PDen [(false, (.int .u32)), (false, (.int .u32))] → Option (PDen [(false, (.int .u32)), (false, (.int .u32))]) := fun x => afun Try.prog (envOf [] [] [] []) ⟨[], []⟩ Try.f56 [(false, (.int .u32)), (false, (.int .u32))] [(false, (.int .u32)), (false, (.int .u32))] false x
theorem r56_eq : r56 = m56 := by kernel_rfl

theorem c56 : CS.Sound Try.prog 56 ⟨[(false, (.int .u32)), (false, (.int .u32))], [(false, (.int .u32)), (false, (.int .u32))], false, m56⟩ := afun_sound' (envOf_sound (CSs.nil) (HDs.nil) (IDs.nil)) rfl Try.follows (f := 56) (fn := Try.f56) Try.func56 (by kernel_rfl) (by kernel_rfl) r56_eq
end Go.Proofs.Ytmengjdjjnhajaa
end

section
/- What function 57 (math/bits.Mul64) computes, by the kernel. -/
open Go Go.Proofs.AM
namespace Go.Proofs.Ytmengjdjjnhajaa

noncomputable def m57 (x : Int × Int × Unit) : Option (Int × (Int × Unit)) :=
  some ((Go.IntKind.wrap .u64 ((Go.IntKind.wrap .u64 ((Go.IntKind.wrap .u64 ((ishr .u64 x.1 (32 : Int)) * (ishr .u64 x.2.1 (32 : Int)))) + (ishr .u64 (Go.IntKind.wrap .u64 ((Go.IntKind.wrap .u64 ((ishr .u64 x.1 (32 : Int)) * (iand .u64 x.2.1 (4294967295 : Int)))) + (ishr .u64 (Go.IntKind.wrap .u64 ((iand .u64 x.1 (4294967295 : Int)) * (iand .u64 x.2.1 (4294967295 : Int)))) (32 : Int)))) (32 : Int)))) + (ishr .u64 (Go.IntKind.wrap .u64 ((iand .u64 (Go.IntKind.wrap .u64 ((Go.IntKind.wrap .u64 ((ishr .u64 x.1 (32 : Int)) * (iand .u64 x.2.1 (4294967295 : Int)))) + (ishr .u64 (Go.IntKind.wrap .u64 ((iand .u64 x.1 (4294967295 : Int)) * (iand .u64 x.2.1 (4294967295 : Int)))) (32 : Int)))) (4294967295 : Int)) + (Go.IntKind.wrap .u64 ((iand .u64 x.1 (4294967295 : Int)) * (ishr .u64 x.2.1 (32 : Int)))))) (32 : Int)))), ((Go.IntKind.wrap .u64 (x.1 * x.2.1)), ()))

noncomputable def r57 : PDen [(false, (.int .u64)), (false, (.int .u64))] → Option (PDen [(false, (.int .u64)), (false, (.int .u64))]) := fun x => afun Try.prog (envOf [] [] [] []) ⟨[], []⟩ Try.f57 [(false, (.int .u64)), (false, (.int .u64))] [(false, (.int .u64)), (false, (.int .u64))] false x
theorem r57_eq : r57 = m57 := by kernel_rfl

theorem c57 : CS.Sound Try.prog 57 ⟨[(false, (.int .u64)), (false, (.int .u64))], [(false, (.int .u64)), (false, (.int .u64))], false, m57⟩ := afun_sound' (envOf_sound (CSs.nil) (HDs.nil) (IDs.nil)) rfl Try.follows (f := 57) (fn := Try.f57) Try.func57 (by kernel_rfl) (by kernel_rfl) r57_eq
end Go.Proofs.Ytmengjdjjnhajaa
end

section
/- What function 52 (math/bits.Mul) computes, by the kernel. -/
open Go Go.Proofs.AM
namespace Go.Proofs.Ytmengjdjjnhajaa

noncomputable def m52 (x : Int × Int × Unit) : Option (Int × (Int × Unit)) :=
  Option.bind (m57 (x.1, (x.2.1, ()))) fun (y1 : (Int × (Int × Unit))) =>
  some (y1.1, (y1.2.1, ()))

noncomputable def r52 : PDen [(false, (.int .u64)), (false, (.int .u64))] → Option (PDen [(false, (.int .u64)), (false, (.int .u64))]) := fun x => afun Try.prog (envOf [(56, ⟨[(false, (.int .u32)), (false, (.int .u32))], [(false, (.int .u32)), (false, (.int .u32))], false, m56⟩), (57, ⟨[(false, (.int .u64)), (false, (.int .u64))], [(false, (.int .u64)), (false, (.int .u64))], false, m57⟩)] [] [] []) ⟨[], []⟩ Try.f52 [(false, (.int .u64)), (false, (.int .u64))] [(false, (.int .u64)), (false, (.int .u64))] false x
theorem r52_eq : r52 = m52 := by kernel_rfl

theorem c52 : CS.Sound Try.prog 52 ⟨[(false, (.int .u64)), (false, (.int .u64))], [(false, (.int .u64)), (false, (.int .u64))], false, m52⟩ := afun_sound' (envOf_sound (CSs.cons c56 (CSs.cons c57 (CSs.nil))) (HDs.nil) (IDs.nil)) rfl Try.follows (f := 52) (fn := Try.f52) Try.func52 (by kernel_rfl) (by kernel_rfl) r52_eq
end Go.Proofs.Ytmengjdjjnhajaa
end

section
/- The function that makes a row of whatever bytes. -/
open Go Go.Proofs.AM
namespace Go.Proofs.Ytmengjdjjnhajaa
theorem z53 : BytesAt Try.prog 53 32 5 := ⟨by kernel_rfl, fun args w => by
  rw [run_callFunc_extern Try.func53 (by kernel_rfl) (by kernel_rfl) (by kernel_rfl) (e := Extern.BytealgMakeNoZero.makeNoZero #[3] #[32]) (by kernel_rfl)]
  rfl⟩
end Go.Proofs.Ytmengjdjjnhajaa
end

section
/- What function 28 (bytes.Repeat) computes, by the kernel. -/
open Go Go.Proofs.AM
namespace Go.Proofs.Ytmengjdjjnhajaa

noncomputable def m28 (x : (List Int) × Int × Unit) : Option ((List Int) × Unit) :=
  bif (decide (x.2.1 = (0 : Int))) then
    (some (([] : List Int), ()))
  else
    (bif (decide (x.2.1 < (0 : Int))) then
      (none)
    else
      (Option.bind (m52 ((Go.IntKind.wrap .u64 (((List.length x.1) : Nat) : Int)), ((Go.IntKind.wrap .u64 x.2.1), ()))) fun (y1 : (Int × (Int × Unit))) =>
      bif (decide (y1.1 > (0 : Int))) then
        (none)
      else
        (bif (decide (y1.2.1 > (9223372036854775807 : Int))) then
          (none)
        else
          (bif (decide ((((List.length x.1) : Nat) : Int) = (0 : Int))) then
            (some (([] : List Int), ()))
          else
            (bif (decide ((Go.IntKind.wrap .i64 y1.2.1) > (8192 : Int))) then
              (if (((List.length x.1) : Nat) : Int) = (0 : Int) then
                (none)
              else
                (bif (decide ((Go.IntKind.wrap .i64 ((Go.IntKind.wrap .i64 (Int.tdiv (8192 : Int) (((List.length x.1) : Nat) : Int))) * (((List.length x.1) : Nat) : Int))) = (0 : Int))) then
                  (gd ((0 : Int) ≤ (Go.IntKind.wrap .i64 y1.2.1)) (gd ((Go.IntKind.wrap .i64 y1.2.1) ≤ (140737488355328 : Int)) (anyBytes (Go.IntKind.wrap .i64 y1.2.1) fun (u2 : List Int) =>
                      gd ((0 : Int) ≤ (Go.IntKind.wrap .i64 y1.2.1)) (gd ((Go.IntKind.wrap .i64 y1.2.1) ≤ (Go.IntKind.wrap .i64 y1.2.1)) (gd ((Go.IntKind.wrap .i64 y1.2.1) ≤ (((List.length u2) : Nat) : Int)) (Option.bind (loopM (X := (Int × (List Int))) (E := (List Int)) (fun (x3 : (Int × (List Int))) =>
                                  bif (decide (x3.1 < (Go.IntKind.wrap .i64 y1.2.1))) then
                                    (gd ((0 : Int) ≤ x3.1) (gd (x3.1 ≤ (((Int.toNat (Go.IntKind.wrap .i64 y1.2.1)) : Nat) : Int)) (gd ((((Int.toNat (Go.IntKind.wrap .i64 y1.2.1)) : Nat) : Int) ≤ (((Int.toNat (Go.IntKind.wrap .i64 y1.2.1)) : Nat) : Int)) (gd ((0 : Int) ≤ (if (((List.length x.1) : Nat) : Int) < x3.1 then (((List.length x.1) : Nat) : Int) else x3.1)) (gd ((if (((List.length x.1) : Nat) : Int) < x3.1 then (((List.length x.1) : Nat) : Int) else x3.1) ≤ (((Int.toNat (Go.IntKind.wrap .i64 y1.2.1)) : Nat) : Int)) (some (Sum.inl ((Go.IntKind.wrap .i64 (x3.1 + (((min (List.length (List.take ((Int.toNat (if (((List.length x.1) : Nat) : Int) < x3.1 then (((List.length x.1) : Nat) : Int) else x3.1)) - (Int.toNat (0 : Int))) (List.drop (0 + (Int.toNat (0 : Int))) x3.2))) ((Int.toNat (((Int.toNat (Go.IntKind.wrap .i64 y1.2.1)) : Nat) : Int)) - (Int.toNat x3.1))) : Nat) : Int))), (((List.take (0 + (Int.toNat x3.1)) x3.2) ++ (List.take ((Int.toNat (((Int.toNat (Go.IntKind.wrap .i64 y1.2.1)) : Nat) : Int)) - (Int.toNat x3.1)) (List.take ((Int.toNat (if (((List.length x.1) : Nat) : Int) < x3.1 then (((List.length x.1) : Nat) : Int) else x3.1)) - (Int.toNat (0 : Int))) (List.drop (0 + (Int.toNat (0 : Int))) x3.2)))) ++ (List.drop ((0 + (Int.toNat x3.1)) + (min (List.length (List.take ((Int.toNat (if (((List.length x.1) : Nat) : Int) < x3.1 then (((List.length x.1) : Nat) : Int) else x3.1)) - (Int.toNat (0 : Int))) (List.drop (0 + (Int.toNat (0 : Int))) x3.2))) ((Int.toNat (((Int.toNat (Go.IntKind.wrap .i64 y1.2.1)) : Nat) : Int)) - (Int.toNat x3.1)))) x3.2))))))))))
                                  else
                                    (some (Sum.inr x3.2))) ((((min (List.length x.1) (Int.toNat (Go.IntKind.wrap .i64 y1.2.1))) : Nat) : Int), (((List.take 0 u2) ++ (List.take (Int.toNat (Go.IntKind.wrap .i64 y1.2.1)) x.1)) ++ (List.drop (0 + (min (List.length x.1) (Int.toNat (Go.IntKind.wrap .i64 y1.2.1)))) u2)))) fun (y3 : (List Int)) =>
                              some ((List.take (Int.toNat (Go.IntKind.wrap .i64 y1.2.1)) (List.drop 0 y3)), ())))))))
                else
                  (gd ((0 : Int) ≤ (Go.IntKind.wrap .i64 y1.2.1)) (gd ((Go.IntKind.wrap .i64 y1.2.1) ≤ (140737488355328 : Int)) (anyBytes (Go.IntKind.wrap .i64 y1.2.1) fun (u2 : List Int) =>
                      gd ((0 : Int) ≤ (Go.IntKind.wrap .i64 y1.2.1)) (gd ((Go.IntKind.wrap .i64 y1.2.1) ≤ (Go.IntKind.wrap .i64 y1.2.1)) (gd ((Go.IntKind.wrap .i64 y1.2.1) ≤ (((List.length u2) : Nat) : Int)) (Option.bind (loopM (X := (Int × (List Int))) (E := (List Int)) (fun (x3 : (Int × (List Int))) =>
                                  bif (decide (x3.1 < (Go.IntKind.wrap .i64 y1.2.1))) then
                                    (gd ((0 : Int) ≤ x3.1) (gd (x3.1 ≤ (((Int.toNat (Go.IntKind.wrap .i64 y1.2.1)) : Nat) : Int)) (gd ((((Int.toNat (Go.IntKind.wrap .i64 y1.2.1)) : Nat) : Int) ≤ (((Int.toNat (Go.IntKind.wrap .i64 y1.2.1)) : Nat) : Int)) (gd ((0 : Int) ≤ (if (Go.IntKind.wrap .i64 ((Go.IntKind.wrap .i64 (Int.tdiv (8192 : Int) (((List.length x.1) : Nat) : Int))) * (((List.length x.1) : Nat) : Int))) < x3.1 then (Go.IntKind.wrap .i64 ((Go.IntKind.wrap .i64 (Int.tdiv (8192 : Int) (((List.length x.1) : Nat) : Int))) * (((List.length x.1) : Nat) : Int))) else x3.1)) (gd ((if (Go.IntKind.wrap .i64 ((Go.IntKind.wrap .i64 (Int.tdiv (8192 : Int) (((List.length x.1) : Nat) : Int))) * (((List.length x.1) : Nat) : Int))) < x3.1 then (Go.IntKind.wrap .i64 ((Go.IntKind.wrap .i64 (Int.tdiv (8192 : Int) (((List.length x.1) : Nat) : Int))) * (((List.length x.1) : Nat) : Int))) else x3.1) ≤ (((Int.toNat (Go.IntKind.wrap .i64 y1.2.1)) : Nat) : Int)) (some (Sum.inl ((Go.IntKind.wrap .i64 (x3.1 + (((min (List.length (List.take ((Int.toNat (if (Go.IntKind.wrap .i64 ((Go.IntKind.wrap .i64 (Int.tdiv (8192 : Int) (((List.length x.1) : Nat) : Int))) * (((List.length x.1) : Nat) : Int))) < x3.1 then (Go.IntKind.wrap .i64 ((Go.IntKind.wrap .i64 (Int.tdiv (8192 : Int) (((List.length x.1) : Nat) : Int))) * (((List.length x.1) : Nat) : Int))) else x3.1)) - (Int.toNat (0 : Int))) (List.drop (0 + (Int.toNat (0 : Int))) x3.2))) ((Int.toNat (((Int.toNat (Go.IntKind.wrap .i64 y1.2.1)) : Nat) : Int)) - (Int.toNat x3.1))) : Nat) : Int))), (((List.take (0 + (Int.toNat x3.1)) x3.2) ++ (List.take ((Int.toNat (((Int.toNat (Go.IntKind.wrap .i64 y1.2.1)) : Nat) : Int)) - (Int.toNat x3.1)) (List.take ((Int.toNat (if (Go.IntKind.wrap .i64 ((Go.IntKind.wrap .i64 (Int.tdiv (8192 : Int) (((List.length x.1) : Nat) : Int))) * (((List.length x.1) : Nat) : Int))) < x3.1 then (Go.IntKind.wrap .i64 ((Go.IntKind.wrap .i64 (Int.tdiv (8192 : Int) (((List.length x.1) : Nat) : Int))) * (((List.length x.1) : Nat) : Int))) else x3.1)) - (Int.toNat (0 : Int))) (List.drop (0 + (Int.toNat (0 : Int))) x3.2)))) ++ (List.drop ((0 + (Int.toNat x3.1)) + (min (List.length (List.take ((Int.toNat (if (Go.IntKind.wrap .i64 ((Go.IntKind.wrap .i64 (Int.tdiv (8192 : Int) (((List.length x.1) : Nat) : Int))) * (((List.length x.1) : Nat) : Int))) < x3.1 then (Go.IntKind.wrap .i64 ((Go.IntKind.wrap .i64 (Int.tdiv (8192 : Int) (((List.length x.1) : Nat) : Int))) * (((List.length x.1) : Nat) : Int))) else x3.1)) - (Int.toNat (0 : Int))) (List.drop (0 + (Int.toNat (0 : Int))) x3.2))) ((Int.toNat (((Int.toNat (Go.IntKind.wrap .i64 y1.2.1)) : Nat) : Int)) - (Int.toNat x3.1)))) x3.2))))))))))
                                  else
                                    (some (Sum.inr x3.2))) ((((min (List.length x.1) (Int.toNat (Go.IntKind.wrap .i64 y1.2.1))) : Nat) : Int), (((List.take 0 u2) ++ (List.take (Int.toNat (Go.IntKind.wrap .i64 y1.2.1)) x.1)) ++ (List.drop (0 + (min (List.length x.1) (Int.toNat (Go.IntKind.wrap .i64 y1.2.1)))) u2)))) fun (y3 : (List Int)) =>
                              some ((List.take (Int.toNat (Go.IntKind.wrap .i64 y1.2.1)) (List.drop 0 y3)), ())))))))))
            else
              (gd ((0 : Int) ≤ (Go.IntKind.wrap .i64 y1.2.1)) (gd ((Go.IntKind.wrap .i64 y1.2.1) ≤ (140737488355328 : Int)) (anyBytes (Go.IntKind.wrap .i64 y1.2.1) fun (u2 : List Int) =>
                  gd ((0 : Int) ≤ (Go.IntKind.wrap .i64 y1.2.1)) (gd ((Go.IntKind.wrap .i64 y1.2.1) ≤ (Go.IntKind.wrap .i64 y1.2.1)) (gd ((Go.IntKind.wrap .i64 y1.2.1) ≤ (((List.length u2) : Nat) : Int)) (Option.bind (loopM (X := (Int × (List Int))) (E := (List Int)) (fun (x3 : (Int × (List Int))) =>
                              bif (decide (x3.1 < (Go.IntKind.wrap .i64 y1.2.1))) then
                                (gd ((0 : Int) ≤ x3.1) (gd (x3.1 ≤ (((Int.toNat (Go.IntKind.wrap .i64 y1.2.1)) : Nat) : Int)) (gd ((((Int.toNat (Go.IntKind.wrap .i64 y1.2.1)) : Nat) : Int) ≤ (((Int.toNat (Go.IntKind.wrap .i64 y1.2.1)) : Nat) : Int)) (gd ((0 : Int) ≤ (if (Go.IntKind.wrap .i64 y1.2.1) < x3.1 then (Go.IntKind.wrap .i64 y1.2.1) else x3.1)) (gd ((if (Go.IntKind.wrap .i64 y1.2.1) < x3.1 then (Go.IntKind.wrap .i64 y1.2.1) else x3.1) ≤ (((Int.toNat (Go.IntKind.wrap .i64 y1.2.1)) : Nat) : Int)) (some (Sum.inl ((Go.IntKind.wrap .i64 (x3.1 + (((min (List.length (List.take ((Int.toNat (if (Go.IntKind.wrap .i64 y1.2.1) < x3.1 then (Go.IntKind.wrap .i64 y1.2.1) else x3.1)) - (Int.toNat (0 : Int))) (List.drop (0 + (Int.toNat (0 : Int))) x3.2))) ((Int.toNat (((Int.toNat (Go.IntKind.wrap .i64 y1.2.1)) : Nat) : Int)) - (Int.toNat x3.1))) : Nat) : Int))), (((List.take (0 + (Int.toNat x3.1)) x3.2) ++ (List.take ((Int.toNat (((Int.toNat (Go.IntKind.wrap .i64 y1.2.1)) : Nat) : Int)) - (Int.toNat x3.1)) (List.take ((Int.toNat (if (Go.IntKind.wrap .i64 y1.2.1) < x3.1 then (Go.IntKind.wrap .i64 y1.2.1) else x3.1)) - (Int.toNat (0 : Int))) (List.drop (0 + (Int.toNat (0 : Int))) x3.2)))) ++ (List.drop ((0 + (Int.toNat x3.1)) + (min (List.length (List.take ((Int.toNat (if (Go.IntKind.wrap .i64 y1.2.1) < x3.1 then (Go.IntKind.wrap .i64 y1.2.1) else x3.1)) - (Int.toNat (0 : Int))) (List.drop (0 + (Int.toNat (0 : Int))) x3.2))) ((Int.toNat (((Int.toNat (Go.IntKind.wrap .i64 y1.2.1)) : Nat) : Int)) - (Int.toNat x3.1)))) x3.2))))))))))
                              else
                                (some (Sum.inr x3.2))) ((((min (List.length x.1) (Int.toNat (Go.IntKind.wrap .i64 y1.2.1))) : Nat) : Int), (((List.take 0 u2) ++ (List.take (Int.toNat (Go.IntKind.wrap .i64 y1.2.1)) x.1)) ++ (List.drop (0 + (min (List.length x.1) (Int.toNat (Go.IntKind.wrap .i64 y1.2.1)))) u2)))) fun (y3 : (List Int)) =>
                          some ((List.take (Int.toNat (Go.IntKind.wrap .i64 y1.2.1)) (List.drop 0 y3)), ()))))))))))))

noncomputable def r28 : PDen [(false, (.sl (.int .u8))), (false, (.int .i64))] → Option (PDen [(false, (.sl (.int .u8)))]) := fun x => afun Try.prog (envOfZ [(52, ⟨[(false, (.int .u64)), (false, (.int .u64))], [(false, (.int .u64)), (false, (.int .u64))], false, m52⟩)] [] [] [] [(53, (32, 5))]) ⟨[(0, ⟨[.slot 10 (.d false (.int .i64) true), .vec 0 5 (.int .u8) true], [], [(some 0, [.vec 0 5 (.int .u8) true])], none⟩)], []⟩ Try.f28 [(false, (.sl (.int .u8))), (false, (.int .i64))] [(false, (.sl (.int .u8)))] false x
theorem r28_eq : r28 = m28 := by kernel_rfl

theorem c28 : CS.Sound Try.prog 28 ⟨[(false, (.sl (.int .u8))), (false, (.int .i64))], [(false, (.sl (.int .u8)))], false, m28⟩ := afun_sound' (envOfZ_sound (CSs.cons c52 (CSs.nil)) (HDs.nil) (IDs.nil) (MZs.cons z53 (MZs.nil))) rfl Try.follows (f := 28) (fn := Try.f28) Try.func28 (by kernel_rfl) (by kernel_rfl) r28_eq
end Go.Proofs.Ytmengjdjjnhajaa
end

section
/- What function 36 ((*slipway/disk.RAM).there) computes, by the kernel. -/
open Go Go.Proofs.AM
namespace Go.Proofs.Ytmengjdjjnhajaa

noncomputable def m36 (x : ((List (List Int)) × ((List Bool) × (Bool × (Bool × (Int × (Int × (List (Int × (List Int))))))))) × Int × Unit) : Option (Bool × Unit) :=
  bif (decide (x.2.1 ≥ (0 : Int))) then
    (some ((decide (x.2.1 < (((List.length x.1.1) : Nat) : Int))), ()))
  else
    (some (false, ()))

noncomputable def r36 : PDen [(false, (.rp (.pair (.sl (.sl (.int .u8))) (.pair (.sl .bool) (.pair .bool (.pair .bool (.pair (.int .i64) (.pair (.int .i64) (.sl (.pair (.int .i64) (.sl (.int .u8)))))))))))), (false, (.int .i64))] → Option (PDen [(false, .bool)]) := fun x => afun Try.prog (envOf [] [] [] []) ⟨[], []⟩ Try.f36 [(false, (.rp (.pair (.sl (.sl (.int .u8))) (.pair (.sl .bool) (.pair .bool (.pair .bool (.pair (.int .i64) (.pair (.int .i64) (.sl (.pair (.int .i64) (.sl (.int .u8)))))))))))), (false, (.int .i64))] [(false, .bool)] false x
theorem r36_eq : r36 = m36 := by kernel_rfl

theorem c36 : CS.Sound Try.prog 36 ⟨[(false, (.rp (.pair (.sl (.sl (.int .u8))) (.pair (.sl .bool) (.pair .bool (.pair .bool (.pair (.int .i64) (.pair (.int .i64) (.sl (.pair (.int .i64) (.sl (.int .u8)))))))))))), (false, (.int .i64))], [(false, .bool)], false, m36⟩ := afun_sound' (envOf_sound (CSs.nil) (HDs.nil) (IDs.nil)) rfl Try.follows (f := 36) (fn := Try.f36) Try.func36 (by kernel_rfl) (by kernel_rfl) r36_eq
end Go.Proofs.Ytmengjdjjnhajaa
end

section
/- What function 37 (slices.Clone(()byte,byte)) computes, by the kernel. -/
open Go Go.Proofs.AM
namespace Go.Proofs.Ytmengjdjjnhajaa

noncomputable def m37 (x : (List Int) × Unit) : Option ((List Int) × Unit) :=
  both (bif (decide ((((List.length x.1) : Nat) : Int) = (0 : Int))) then
      (some (([] : List Int), ()))
    else
      (gd ((((List.length ([] : List Int)) + (List.length x.1)) * 1) ≤ 140737488355328) (gd (((List.length ([] : List Int)) + (List.length x.1)) ≤ 140737488355328) (some ((([] : List Int) ++ x.1), ()))))) (gd ((((List.length ([] : List Int)) + (List.length x.1)) * 1) ≤ 140737488355328) (gd (((List.length ([] : List Int)) + (List.length x.1)) ≤ 140737488355328) (some ((([] : List Int) ++ x.1), ()))))

noncomputable def r37 : PDen [(false, (.sl (.int .u8)))] → Option (PDen [(false, (.sl (.int .u8)))]) := fun x => afun Try.prog (envOf [] [] [] []) ⟨[], []⟩ Try.f37 [(false, (.sl (.int .u8)))] [(false, (.sl (.int .u8)))] false x
theorem r37_eq : r37 = m37 := by kernel_rfl

theorem c37 : CS.Sound Try.prog 37 ⟨[(false, (.sl (.int .u8)))], [(false, (.sl (.int .u8)))], false, m37⟩ := afun_sound' (envOf_sound (CSs.nil) (HDs.nil) (IDs.nil)) rfl Try.follows (f := 37) (fn := Try.f37) Try.func37 (by kernel_rfl) (by kernel_rfl) r37_eq
end Go.Proofs.Ytmengjdjjnhajaa
end

section
/- What function 29 ((*slipway/disk.RAM).Read) computes, by the kernel. -/
open Go Go.Proofs.AM
namespace Go.Proofs.Ytmengjdjjnhajaa

noncomputable def m29 (x : ((List (List Int)) × ((List Bool) × (Bool × (Bool × (Int × (Int × (List (Int × (List Int))))))))) × Int × Unit) : Option ((List Int) × (Int × Unit)) :=
  Option.bind (m35 (x.1, ())) fun (y1 : (Int × Unit)) =>
  bif (!(decide (y1.1 = (0 : Int)))) then
    (some (([] : List Int), (y1.1, ())))
  else
    (Option.bind (m36 (x.1, (x.2.1, ()))) fun (y2 : (Bool × Unit)) =>
    bif (!y2.1) then
      (some (([] : List Int), ((1 : Int), ())))
    else
      (gd ((0 : Int) ≤ x.2.1) (gd (x.2.1 < (((List.length x.1.2.1) : Nat) : Int)) (bif (List.getD x.1.2.1 (Int.toNat x.2.1) false) then
            (some (([] : List Int), ((80 : Int), ())))
          else
            (gd ((0 : Int) ≤ x.2.1) (gd (x.2.1 < (((List.length x.1.1) : Nat) : Int)) (Option.bind (m37 ((List.getD x.1.1 (Int.toNat x.2.1) ([] : List Int)), ())) fun (y3 : ((List Int) × Unit)) =>
                some (y3.1, ((0 : Int), ())))))))))

noncomputable def r29 : PDen [(false, (.rp (.pair (.sl (.sl (.int .u8))) (.pair (.sl .bool) (.pair .bool (.pair .bool (.pair (.int .i64) (.pair (.int .i64) (.sl (.pair (.int .i64) (.sl (.int .u8)))))))))))), (false, (.int .i64))] → Option (PDen [(false, (.sl (.int .u8))), (false, (.int .i64))]) := fun x => afun Try.prog (envOf [(35, ⟨[(false, (.rp (.pair (.sl (.sl (.int .u8))) (.pair (.sl .bool) (.pair .bool (.pair .bool (.pair (.int .i64) (.pair (.int .i64) (.sl (.pair (.int .i64) (.sl (.int .u8))))))))))))], [(false, (.int .i64))], false, m35⟩), (36, ⟨[(false, (.rp (.pair (.sl (.sl (.int .u8))) (.pair (.sl .bool) (.pair .bool (.pair .bool (.pair (.int .i64) (.pair (.int .i64) (.sl (.pair (.int .i64) (.sl (.int .u8)))))))))))), (false, (.int .i64))], [(false, .bool)], false, m36⟩), (37, ⟨[(false, (.sl (.int .u8)))], [(false, (.sl (.int .u8)))], false, m37⟩)] [] [] []) ⟨[], []⟩ Try.f29 [(false, (.rp (.pair (.sl (.sl (.int .u8))) (.pair (.sl .bool) (.pair .bool (.pair .bool (.pair (.int .i64) (.pair (.int .i64) (.sl (.pair (.int .i64) (.sl (.int .u8)))))))))))), (false, (.int .i64))] [(false, (.sl (.int .u8))), (false, (.int .i64))] false x
theorem r29_eq : r29 = m29 := by kernel_rfl

theorem c29 : CS.Sound Try.prog 29 ⟨[(false, (.rp (.pair (.sl (.sl (.int .u8))) (.pair (.sl .bool) (.pair .bool (.pair .bool (.pair (.int .i64) (.pair (.int .i64) (.sl (.pair (.int .i64) (.sl (.int .u8)))))))))))), (false, (.int .i64))], [(false, (.sl (.int .u8))), (false, (.int .i64))], false, m29⟩ := afun_sound' (envOf_sound (CSs.cons c35 (CSs.cons c36 (CSs.cons c37 (CSs.nil)))) (HDs.nil) (IDs.nil)) rfl Try.follows (f := 29) (fn := Try.f29) Try.func29 (by kernel_rfl) (by kernel_rfl) r29_eq
end Go.Proofs.Ytmengjdjjnhajaa
end

section
/- What function 30 (bytes.Equal) computes, by the kernel. -/
open Go Go.Proofs.AM
namespace Go.Proofs.Ytmengjdjjnhajaa

noncomputable def m30 (x : (List Int) × (List Int) × Unit) : Option (Bool × Unit) :=
  some ((streq (Go.strOfNums x.1) (Go.strOfNums x.2.1)), ())

noncomputable def r30 : PDen [(false, (.sl (.int .u8))), (false, (.sl (.int .u8)))] → Option (PDen [(false, .bool)]) := fun x => afun Try.prog (envOf [] [] [] []) ⟨[], []⟩ Try.f30 [(false, (.sl (.int .u8))), (false, (.sl (.int .u8)))] [(false, .bool)] false x
theorem r30_eq : r30 = m30 := by kernel_rfl

theorem c30 : CS.Sound Try.prog 30 ⟨[(false, (.sl (.int .u8))), (false, (.sl (.int .u8)))], [(false, .bool)], false, m30⟩ := afun_sound' (envOf_sound (CSs.nil) (HDs.nil) (IDs.nil)) rfl Try.follows (f := 30) (fn := Try.f30) Try.func30 (by kernel_rfl) (by kernel_rfl) r30_eq
end Go.Proofs.Ytmengjdjjnhajaa
end

section
/- What function 10 ((*slipway/disk.RAM).CutAfter) computes, by the kernel. -/
open Go Go.Proofs.AM
namespace Go.Proofs.Ytmengjdjjnhajaa

noncomputable def m10 (x : ((List (List Int)) × ((List Bool) × (Bool × (Bool × (Int × (Int × (List (Int × (List Int))))))))) × Int × Unit) : Option (((List (List Int)) × ((List Bool) × (Bool × (Bool × (Int × (Int × (List (Int × (List Int))))))))) × Unit) :=
  Option.bind (m34 (x.1, ())) fun (y1 : (Bool × Unit)) =>
  bif (!y1.1) then
    (some ((x.1.1, (x.1.2.1, (x.1.2.2.1, ((decide (x.2.1 ≥ (0 : Int))), ((if (0 : Int) > x.2.1 then (0 : Int) else x.2.1), x.1.2.2.2.2.2))))), ()))
  else
    (some (x.1, ()))

noncomputable def r10 : PDen ((true, (.pair (.sl (.sl (.int .u8))) (.pair (.sl .bool) (.pair .bool (.pair .bool (.pair (.int .i64) (.pair (.int .i64) (.sl (.pair (.int .i64) (.sl (.int .u8))))))))))) :: [(false, (.int .i64))]) → Option (PDen ((true, (.pair (.sl (.sl (.int .u8))) (.pair (.sl .bool) (.pair .bool (.pair .bool (.pair (.int .i64) (.pair (.int .i64) (.sl (.pair (.int .i64) (.sl (.int .u8))))))))))) :: [])) := fun x => afunIO Try.prog (envOf [(34, ⟨[(false, (.rp (.pair (.sl (.sl (.int .u8))) (.pair (.sl .bool) (.pair .bool (.pair .bool (.pair (.int .i64) (.pair (.int .i64) (.sl (.pair (.int .i64) (.sl (.int .u8))))))))))))], [(false, .bool)], false, m34⟩)] [] [] []) ⟨[], []⟩ Try.f10 64 (.pair (.sl (.sl (.int .u8))) (.pair (.sl .bool) (.pair .bool (.pair .bool (.pair (.int .i64) (.pair (.int .i64) (.sl (.pair (.int .i64) (.sl (.int .u8)))))))))) (.p (.s 32) (.p (.s 4) (.p .d (.p .d (.p .d (.p .d (.s 75))))))) [(false, (.int .i64))] [] x
theorem r10_eq : r10 = m10 := by kernel_rfl

theorem c10 : IOc.Sound Try.prog 10 ⟨64, (.pair (.sl (.sl (.int .u8))) (.pair (.sl .bool) (.pair .bool (.pair .bool (.pair (.int .i64) (.pair (.int .i64) (.sl (.pair (.int .i64) (.sl (.int .u8)))))))))), (.p (.s 32) (.p (.s 4) (.p .d (.p .d (.p .d (.p .d (.s 75))))))), [(false, (.int .i64))], [], m10⟩ := afunIO_sound' (envOf_sound (CSs.cons c34 (CSs.nil)) (HDs.nil) (IDs.nil)) rfl Try.follows (f := 10) (fn := Try.f10) Try.func10 (by kernel_rfl) (by kernel_rfl) r10_eq
end Go.Proofs.Ytmengjdjjnhajaa
end

section
/- What function 11 ((*slipway/disk.RAM).Write) computes, by the kernel. -/
open Go Go.Proofs.AM
namespace Go.Proofs.Ytmengjdjjnhajaa

noncomputable def m11 (x : ((List (List Int)) × ((List Bool) × (Bool × (Bool × (Int × (Int × (List (Int × (List Int))))))))) × Int × (List Int) × Unit) : Option (((List (List Int)) × ((List Bool) × (Bool × (Bool × (Int × (Int × (List (Int × (List Int))))))))) × (Int × Unit)) :=
  Option.bind (m35 (x.1, ())) fun (y1 : (Int × Unit)) =>
  bif (!(decide (y1.1 = (0 : Int)))) then
    (some (x.1, (y1.1, ())))
  else
    (Option.bind (m36 (x.1, (x.2.1, ()))) fun (y2 : (Bool × Unit)) =>
    bif (!y2.1) then
      (some (x.1, ((1 : Int), ())))
    else
      (bif (!(decide ((((List.length x.2.2.1) : Nat) : Int) = (256 : Int)))) then
        (some (x.1, ((1 : Int), ())))
      else
        (bif x.1.2.2.2.1 then
          (bif (decide (x.1.2.2.2.2.1 = (0 : Int))) then
            (some ((x.1.1, (x.1.2.1, (true, x.1.2.2.2))), ((8 : Int), ())))
          else
            (Option.bind (m37 (x.2.2.1, ())) fun (y3 : ((List Int) × Unit)) =>
            gd ((0 : Int) ≤ x.2.1) (gd (x.2.1 < (((List.length x.1.1) : Nat) : Int)) (gd ((Int.toNat x.2.1) < (List.length x.1.1)) (gd ((0 : Int) ≤ x.2.1) (gd (x.2.1 < (((List.length x.1.2.1) : Nat) : Int)) (gd ((Int.toNat x.2.1) < (List.length x.1.2.1)) (Option.bind (m37 (x.2.2.1, ())) fun (y4 : ((List Int) × Unit)) =>
                        gd ((((List.length x.1.2.2.2.2.2.2) + (List.length ((x.2.1, y4.1) :: ([] : List (Int × (List Int)))))) * 32) ≤ 140737488355328) (gd (((List.length x.1.2.2.2.2.2.2) + (List.length ((x.2.1, y4.1) :: ([] : List (Int × (List Int)))))) ≤ 140737488355328) (gd ((0 : Int) ≤ (if (Go.IntKind.wrap .i64 ((((List.length (x.1.2.2.2.2.2.2 ++ ((x.2.1, y4.1) :: ([] : List (Int × (List Int)))))) : Nat) : Int) - (1024 : Int))) > (0 : Int) then (Go.IntKind.wrap .i64 ((((List.length (x.1.2.2.2.2.2.2 ++ ((x.2.1, y4.1) :: ([] : List (Int × (List Int)))))) : Nat) : Int) - (1024 : Int))) else (0 : Int))) (gd ((if (Go.IntKind.wrap .i64 ((((List.length (x.1.2.2.2.2.2.2 ++ ((x.2.1, y4.1) :: ([] : List (Int × (List Int)))))) : Nat) : Int) - (1024 : Int))) > (0 : Int) then (Go.IntKind.wrap .i64 ((((List.length (x.1.2.2.2.2.2.2 ++ ((x.2.1, y4.1) :: ([] : List (Int × (List Int)))))) : Nat) : Int) - (1024 : Int))) else (0 : Int)) ≤ (((List.length (x.1.2.2.2.2.2.2 ++ ((x.2.1, y4.1) :: ([] : List (Int × (List Int)))))) : Nat) : Int)) (gd ((((List.length (x.1.2.2.2.2.2.2 ++ ((x.2.1, y4.1) :: ([] : List (Int × (List Int)))))) : Nat) : Int) ≤ (((List.length (x.1.2.2.2.2.2.2 ++ ((x.2.1, y4.1) :: ([] : List (Int × (List Int)))))) : Nat) : Int)) (some (((List.set x.1.1 (Int.toNat x.2.1) y3.1), ((List.set x.1.2.1 (Int.toNat x.2.1) false), (x.1.2.2.1, (x.1.2.2.2.1, ((Go.IntKind.wrap .i64 (x.1.2.2.2.2.1 - (1 : Int))), ((Go.IntKind.wrap .i64 (x.1.2.2.2.2.2.1 + (1 : Int))), (List.take ((Int.toNat (((List.length (x.1.2.2.2.2.2.2 ++ ((x.2.1, y4.1) :: ([] : List (Int × (List Int)))))) : Nat) : Int)) - (Int.toNat (if (Go.IntKind.wrap .i64 ((((List.length (x.1.2.2.2.2.2.2 ++ ((x.2.1, y4.1) :: ([] : List (Int × (List Int)))))) : Nat) : Int) - (1024 : Int))) > (0 : Int) then (Go.IntKind.wrap .i64 ((((List.length (x.1.2.2.2.2.2.2 ++ ((x.2.1, y4.1) :: ([] : List (Int × (List Int)))))) : Nat) : Int) - (1024 : Int))) else (0 : Int)))) (List.drop (Int.toNat (if (Go.IntKind.wrap .i64 ((((List.length (x.1.2.2.2.2.2.2 ++ ((x.2.1, y4.1) :: ([] : List (Int × (List Int)))))) : Nat) : Int) - (1024 : Int))) > (0 : Int) then (Go.IntKind.wrap .i64 ((((List.length (x.1.2.2.2.2.2.2 ++ ((x.2.1, y4.1) :: ([] : List (Int × (List Int)))))) : Nat) : Int) - (1024 : Int))) else (0 : Int))) (x.1.2.2.2.2.2.2 ++ ((x.2.1, y4.1) :: ([] : List (Int × (List Int))))))))))))), ((0 : Int), ())))))))))))))))
        else
          (Option.bind (m37 (x.2.2.1, ())) fun (y3 : ((List Int) × Unit)) =>
          gd ((0 : Int) ≤ x.2.1) (gd (x.2.1 < (((List.length x.1.1) : Nat) : Int)) (gd ((Int.toNat x.2.1) < (List.length x.1.1)) (gd ((0 : Int) ≤ x.2.1) (gd (x.2.1 < (((List.length x.1.2.1) : Nat) : Int)) (gd ((Int.toNat x.2.1) < (List.length x.1.2.1)) (Option.bind (m37 (x.2.2.1, ())) fun (y4 : ((List Int) × Unit)) =>
                      gd ((((List.length x.1.2.2.2.2.2.2) + (List.length ((x.2.1, y4.1) :: ([] : List (Int × (List Int)))))) * 32) ≤ 140737488355328) (gd (((List.length x.1.2.2.2.2.2.2) + (List.length ((x.2.1, y4.1) :: ([] : List (Int × (List Int)))))) ≤ 140737488355328) (gd ((0 : Int) ≤ (if (Go.IntKind.wrap .i64 ((((List.length (x.1.2.2.2.2.2.2 ++ ((x.2.1, y4.1) :: ([] : List (Int × (List Int)))))) : Nat) : Int) - (1024 : Int))) > (0 : Int) then (Go.IntKind.wrap .i64 ((((List.length (x.1.2.2.2.2.2.2 ++ ((x.2.1, y4.1) :: ([] : List (Int × (List Int)))))) : Nat) : Int) - (1024 : Int))) else (0 : Int))) (gd ((if (Go.IntKind.wrap .i64 ((((List.length (x.1.2.2.2.2.2.2 ++ ((x.2.1, y4.1) :: ([] : List (Int × (List Int)))))) : Nat) : Int) - (1024 : Int))) > (0 : Int) then (Go.IntKind.wrap .i64 ((((List.length (x.1.2.2.2.2.2.2 ++ ((x.2.1, y4.1) :: ([] : List (Int × (List Int)))))) : Nat) : Int) - (1024 : Int))) else (0 : Int)) ≤ (((List.length (x.1.2.2.2.2.2.2 ++ ((x.2.1, y4.1) :: ([] : List (Int × (List Int)))))) : Nat) : Int)) (gd ((((List.length (x.1.2.2.2.2.2.2 ++ ((x.2.1, y4.1) :: ([] : List (Int × (List Int)))))) : Nat) : Int) ≤ (((List.length (x.1.2.2.2.2.2.2 ++ ((x.2.1, y4.1) :: ([] : List (Int × (List Int)))))) : Nat) : Int)) (some (((List.set x.1.1 (Int.toNat x.2.1) y3.1), ((List.set x.1.2.1 (Int.toNat x.2.1) false), (x.1.2.2.1, (x.1.2.2.2.1, (x.1.2.2.2.2.1, ((Go.IntKind.wrap .i64 (x.1.2.2.2.2.2.1 + (1 : Int))), (List.take ((Int.toNat (((List.length (x.1.2.2.2.2.2.2 ++ ((x.2.1, y4.1) :: ([] : List (Int × (List Int)))))) : Nat) : Int)) - (Int.toNat (if (Go.IntKind.wrap .i64 ((((List.length (x.1.2.2.2.2.2.2 ++ ((x.2.1, y4.1) :: ([] : List (Int × (List Int)))))) : Nat) : Int) - (1024 : Int))) > (0 : Int) then (Go.IntKind.wrap .i64 ((((List.length (x.1.2.2.2.2.2.2 ++ ((x.2.1, y4.1) :: ([] : List (Int × (List Int)))))) : Nat) : Int) - (1024 : Int))) else (0 : Int)))) (List.drop (Int.toNat (if (Go.IntKind.wrap .i64 ((((List.length (x.1.2.2.2.2.2.2 ++ ((x.2.1, y4.1) :: ([] : List (Int × (List Int)))))) : Nat) : Int) - (1024 : Int))) > (0 : Int) then (Go.IntKind.wrap .i64 ((((List.length (x.1.2.2.2.2.2.2 ++ ((x.2.1, y4.1) :: ([] : List (Int × (List Int)))))) : Nat) : Int) - (1024 : Int))) else (0 : Int))) (x.1.2.2.2.2.2.2 ++ ((x.2.1, y4.1) :: ([] : List (Int × (List Int))))))))))))), ((0 : Int), ())))))))))))))))))

noncomputable def r11 : PDen ((true, (.pair (.sl (.sl (.int .u8))) (.pair (.sl .bool) (.pair .bool (.pair .bool (.pair (.int .i64) (.pair (.int .i64) (.sl (.pair (.int .i64) (.sl (.int .u8))))))))))) :: [(false, (.int .i64)), (false, (.sl (.int .u8)))]) → Option (PDen ((true, (.pair (.sl (.sl (.int .u8))) (.pair (.sl .bool) (.pair .bool (.pair .bool (.pair (.int .i64) (.pair (.int .i64) (.sl (.pair (.int .i64) (.sl (.int .u8))))))))))) :: [(false, (.int .i64))])) := fun x => afunIO Try.prog (envOf [(35, ⟨[(false, (.rp (.pair (.sl (.sl (.int .u8))) (.pair (.sl .bool) (.pair .bool (.pair .bool (.pair (.int .i64) (.pair (.int .i64) (.sl (.pair (.int .i64) (.sl (.int .u8))))))))))))], [(false, (.int .i64))], false, m35⟩), (36, ⟨[(false, (.rp (.pair (.sl (.sl (.int .u8))) (.pair (.sl .bool) (.pair .bool (.pair .bool (.pair (.int .i64) (.pair (.int .i64) (.sl (.pair (.int .i64) (.sl (.int .u8)))))))))))), (false, (.int .i64))], [(false, .bool)], false, m36⟩), (37, ⟨[(false, (.sl (.int .u8)))], [(false, (.sl (.int .u8)))], false, m37⟩)] [] [71, 87] []) ⟨[], []⟩ Try.f11 64 (.pair (.sl (.sl (.int .u8))) (.pair (.sl .bool) (.pair .bool (.pair .bool (.pair (.int .i64) (.pair (.int .i64) (.sl (.pair (.int .i64) (.sl (.int .u8)))))))))) (.p (.s 32) (.p (.s 4) (.p .d (.p .d (.p .d (.p .d (.s 75))))))) [(false, (.int .i64)), (false, (.sl (.int .u8)))] [(false, (.int .i64))] x
theorem r11_eq : r11 = m11 := by kernel_rfl

theorem c11 : IOc.Sound Try.prog 11 ⟨64, (.pair (.sl (.sl (.int .u8))) (.pair (.sl .bool) (.pair .bool (.pair .bool (.pair (.int .i64) (.pair (.int .i64) (.sl (.pair (.int .i64) (.sl (.int .u8)))))))))), (.p (.s 32) (.p (.s 4) (.p .d (.p .d (.p .d (.p .d (.s 75))))))), [(false, (.int .i64)), (false, (.sl (.int .u8)))], [(false, (.int .i64))], m11⟩ := afunIO_sound' (envOf_sound (CSs.cons c35 (CSs.cons c36 (CSs.cons c37 (CSs.nil)))) (HDs.nil) (IDs.nil)) rfl Try.follows (f := 11) (fn := Try.f11) Try.func11 (by kernel_rfl) (by kernel_rfl) r11_eq
end Go.Proofs.Ytmengjdjjnhajaa
end

section
/- What function 16 ((*slipway/disk.RAM).Restart) computes, by the kernel. -/
open Go Go.Proofs.AM
namespace Go.Proofs.Ytmengjdjjnhajaa

noncomputable def m16 (x : ((List (List Int)) × ((List Bool) × (Bool × (Bool × (Int × (Int × (List (Int × (List Int))))))))) × Unit) : Option (((List (List Int)) × ((List Bool) × (Bool × (Bool × (Int × (Int × (List (Int × (List Int))))))))) × Unit) :=
  Option.bind (m34 (x.1, ())) fun (y1 : (Bool × Unit)) =>
  bif (!y1.1) then
    (some ((x.1.1, (x.1.2.1, (false, (false, ((0 : Int), x.1.2.2.2.2.2))))), ()))
  else
    (some (x.1, ()))

noncomputable def r16 : PDen ((true, (.pair (.sl (.sl (.int .u8))) (.pair (.sl .bool) (.pair .bool (.pair .bool (.pair (.int .i64) (.pair (.int .i64) (.sl (.pair (.int .i64) (.sl (.int .u8))))))))))) :: []) → Option (PDen ((true, (.pair (.sl (.sl (.int .u8))) (.pair (.sl .bool) (.pair .bool (.pair .bool (.pair (.int .i64) (.pair (.int .i64) (.sl (.pair (.int .i64) (.sl (.int .u8))))))))))) :: [])) := fun x => afunIO Try.prog (envOf [(34, ⟨[(false, (.rp (.pair (.sl (.sl (.int .u8))) (.pair (.sl .bool) (.pair .bool (.pair .bool (.pair (.int .i64) (.pair (.int .i64) (.sl (.pair (.int .i64) (.sl (.int .u8))))))))))))], [(false, .bool)], false, m34⟩)] [] [] []) ⟨[], []⟩ Try.f16 64 (.pair (.sl (.sl (.int .u8))) (.pair (.sl .bool) (.pair .bool (.pair .bool (.pair (.int .i64) (.pair (.int .i64) (.sl (.pair (.int .i64) (.sl (.int .u8)))))))))) (.p (.s 32) (.p (.s 4) (.p .d (.p .d (.p .d (.p .d (.s 75))))))) [] [] x
theorem r16_eq : r16 = m16 := by kernel_rfl

theorem c16 : IOc.Sound Try.prog 16 ⟨64, (.pair (.sl (.sl (.int .u8))) (.pair (.sl .bool) (.pair .bool (.pair .bool (.pair (.int .i64) (.pair (.int .i64) (.sl (.pair (.int .i64) (.sl (.int .u8)))))))))), (.p (.s 32) (.p (.s 4) (.p .d (.p .d (.p .d (.p .d (.s 75))))))), [], [], m16⟩ := afunIO_sound' (envOf_sound (CSs.cons c34 (CSs.nil)) (HDs.nil) (IDs.nil)) rfl Try.follows (f := 16) (fn := Try.f16) Try.func16 (by kernel_rfl) (by kernel_rfl) r16_eq
end Go.Proofs.Ytmengjdjjnhajaa
end

section
/- What function 7 (slipway/slipwaylaw09.live) computes, by the kernel. -/
open Go Go.Proofs.AM
namespace Go.Proofs.Ytmengjdjjnhajaa

noncomputable def m7 (x : Unit) : Option (Bool × Unit) :=
  bif (decide ((3 : Int) < (1 : Int))) then
    (bif (!(decide ((1 : Int) = (0 : Int)))) then
      (some (false, ()))
    else
      (some (false, ())))
  else
    (bif (decide ((3 : Int) > (8192 : Int))) then
      (bif (!(decide ((1 : Int) = (0 : Int)))) then
        (some (false, ()))
      else
        (some (false, ())))
    else
      (gd (((3 : Int) * (1 : Int)) ≤ (140737488355328 : Int)) (Option.bind (loopM (X := (Int × ((List (List Int)) × ((List Bool) × (Bool × (Bool × (Int × (Int × (List (Int × (List Int))))))))))) (E := ((List (List Int)) × ((List Bool) × (Bool × (Bool × (Int × (Int × (List (Int × (List Int)))))))))) (fun (x1 : (Int × ((List (List Int)) × ((List Bool) × (Bool × (Bool × (Int × (Int × (List (Int × (List Int))))))))))) =>
            bif (decide (x1.1 < (3 : Int))) then
              (gd (((256 : Int) * (1 : Int)) ≤ (140737488355328 : Int)) (gd ((((List.length x1.2.1) + (List.length ((List.replicate (Int.toNat (256 : Int)) (0 : Int)) :: ([] : List (List Int))))) * 24) ≤ 140737488355328) (gd (((List.length x1.2.1) + (List.length ((List.replicate (Int.toNat (256 : Int)) (0 : Int)) :: ([] : List (List Int))))) ≤ 140737488355328) (some (Sum.inl ((Go.IntKind.wrap .i64 (x1.1 + (1 : Int))), ((x1.2.1 ++ ((List.replicate (Int.toNat (256 : Int)) (0 : Int)) :: ([] : List (List Int)))), (x1.2.2.1, (x1.2.2.2.1, (x1.2.2.2.2.1, (x1.2.2.2.2.2.1, (x1.2.2.2.2.2.2.1, x1.2.2.2.2.2.2.2))))))))))))
            else
              (some (Sum.inr (x1.2.1, (x1.2.2.1, (x1.2.2.2.1, (x1.2.2.2.2.1, (x1.2.2.2.2.2.1, (x1.2.2.2.2.2.2.1, x1.2.2.2.2.2.2.2))))))))) ((0 : Int), (([] : List (List Int)), ((List.replicate (Int.toNat (3 : Int)) false), (false, (false, ((0 : Int), ((0 : Int), ([] : List (Int × (List Int))))))))))) fun (y1 : ((List (List Int)) × ((List Bool) × (Bool × (Bool × (Int × (Int × (List (Int × (List Int)))))))))) =>
        bif (!(decide ((0 : Int) = (0 : Int)))) then
          (some (false, ()))
        else
          (Option.bind (m28 (((7 : Int) :: ([] : List Int)), ((256 : Int), ()))) fun (y2 : ((List Int) × Unit)) =>
          Option.bind (m10 (y1, ((1 : Int), ()))) fun (y3 : (((List (List Int)) × ((List Bool) × (Bool × (Bool × (Int × (Int × (List (Int × (List Int))))))))) × Unit)) =>
          Option.bind (m11 (y3.1, ((1 : Int), (y2.1, ())))) fun (y4 : (((List (List Int)) × ((List Bool) × (Bool × (Bool × (Int × (Int × (List (Int × (List Int))))))))) × (Int × Unit))) =>
          bif (!(decide (y4.2.1 = (0 : Int)))) then
            (some (false, ()))
          else
            (Option.bind (m11 (y4.1, ((2 : Int), (y2.1, ())))) fun (y5 : (((List (List Int)) × ((List Bool) × (Bool × (Bool × (Int × (Int × (List (Int × (List Int))))))))) × (Int × Unit))) =>
            bif (!(decide (y5.2.1 = (8 : Int)))) then
              (some (false, ()))
            else
              (Option.bind (m14 (y5.1, ())) fun (y6 : (Bool × Unit)) =>
              bif y6.1 then
                (some (false, ()))
              else
                (Option.bind (m16 (y5.1, ())) fun (y7 : (((List (List Int)) × ((List Bool) × (Bool × (Bool × (Int × (Int × (List (Int × (List Int))))))))) × Unit)) =>
                Option.bind (m29 (y7.1, ((1 : Int), ()))) fun (y8 : ((List Int) × (Int × Unit))) =>
                Option.bind (m29 (y7.1, ((2 : Int), ()))) fun (y9 : ((List Int) × (Int × Unit))) =>
                bif (decide (y8.2.1 = (0 : Int))) then
                  (bif (decide (y9.2.1 = (0 : Int))) then
                    (Option.bind (m30 (y8.1, (y2.1, ()))) fun (y10 : (Bool × Unit)) =>
                    bif y10.1 then
                      (gd (((256 : Int) * (1 : Int)) ≤ (140737488355328 : Int)) (Option.bind (m30 (y9.1, ((List.replicate (Int.toNat (256 : Int)) (0 : Int)), ()))) fun (y11 : (Bool × Unit)) =>
                        some (y11.1, ())))
                    else
                      (some (false, ())))
                  else
                    (some (false, ())))
                else
                  (some (false, ())))))))))

noncomputable def i7_8 : ID := aInl Try.prog (envOf [] [] [23, 24] []) ⟨[(3000, ⟨[.slot 16 (.d false (.int .i64) true), .cell 1 0 (.v 32 (.sl (.int .u8)) false), .cell 1 1 (.v 4 .bool false), .cell 1 2 (.d false .bool true), .cell 1 3 (.d false .bool true), .cell 1 4 (.d false (.int .i64) true), .cell 1 5 (.d false (.int .i64) true), .cell 1 6 (.v 75 (.pair (.int .i64) (.sl (.int .u8))) false)], [0], [(some 0, [.cell 1 0 (.v 32 (.sl (.int .u8)) false), .cell 1 1 (.v 4 .bool false), .cell 1 2 (.d false .bool true), .cell 1 3 (.d false .bool true), .cell 1 4 (.d false (.int .i64) true), .cell 1 5 (.d false (.int .i64) true), .cell 1 6 (.v 75 (.pair (.int .i64) (.sl (.int .u8))) false)])], none⟩)], []⟩ Try.f8
noncomputable def r7 : PDen [] → Option (PDen [(false, .bool)]) := fun x => afun Try.prog (envOf [(14, ⟨[(false, (.rp (.pair (.sl (.sl (.int .u8))) (.pair (.sl .bool) (.pair .bool (.pair .bool (.pair (.int .i64) (.pair (.int .i64) (.sl (.pair (.int .i64) (.sl (.int .u8))))))))))))], [(false, .bool)], false, m14⟩), (28, ⟨[(false, (.sl (.int .u8))), (false, (.int .i64))], [(false, (.sl (.int .u8)))], false, m28⟩), (29, ⟨[(false, (.rp (.pair (.sl (.sl (.int .u8))) (.pair (.sl .bool) (.pair .bool (.pair .bool (.pair (.int .i64) (.pair (.int .i64) (.sl (.pair (.int .i64) (.sl (.int .u8)))))))))))), (false, (.int .i64))], [(false, (.sl (.int .u8))), (false, (.int .i64))], false, m29⟩), (30, ⟨[(false, (.sl (.int .u8))), (false, (.sl (.int .u8)))], [(false, .bool)], false, m30⟩)] [(10, IOc.hd ⟨64, (.pair (.sl (.sl (.int .u8))) (.pair (.sl .bool) (.pair .bool (.pair .bool (.pair (.int .i64) (.pair (.int .i64) (.sl (.pair (.int .i64) (.sl (.int .u8)))))))))), (.p (.s 32) (.p (.s 4) (.p .d (.p .d (.p .d (.p .d (.s 75))))))), [(false, (.int .i64))], [], m10⟩), (11, IOc.hd ⟨64, (.pair (.sl (.sl (.int .u8))) (.pair (.sl .bool) (.pair .bool (.pair .bool (.pair (.int .i64) (.pair (.int .i64) (.sl (.pair (.int .i64) (.sl (.int .u8)))))))))), (.p (.s 32) (.p (.s 4) (.p .d (.p .d (.p .d (.p .d (.s 75))))))), [(false, (.int .i64)), (false, (.sl (.int .u8)))], [(false, (.int .i64))], m11⟩), (16, IOc.hd ⟨64, (.pair (.sl (.sl (.int .u8))) (.pair (.sl .bool) (.pair .bool (.pair .bool (.pair (.int .i64) (.pair (.int .i64) (.sl (.pair (.int .i64) (.sl (.int .u8)))))))))), (.p (.s 32) (.p (.s 4) (.p .d (.p .d (.p .d (.p .d (.s 75))))))), [], [], m16⟩)] [] [(8, i7_8)]) ⟨[], []⟩ Try.f7 [] [(false, .bool)] false x
theorem r7_eq : r7 = m7 := by kernel_rfl

theorem i7_8_sound : i7_8.Sound Try.prog 8 := aInl_sound' (envOf_sound (CSs.nil) (HDs.nil) (IDs.nil)) Try.follows (f := 8) (fn := Try.f8) Try.func8 (by kernel_rfl) (by kernel_rfl)
theorem c7 : CS.Sound Try.prog 7 ⟨[], [(false, .bool)], false, m7⟩ := afun_sound' (envOf_sound (CSs.cons c14 (CSs.cons c28 (CSs.cons c29 (CSs.cons c30 (CSs.nil))))) (HDs.cons (IOc.Sound.hd c10) (HDs.cons (IOc.Sound.hd c11) (HDs.cons (IOc.Sound.hd c16) (HDs.nil)))) (IDs.cons i7_8_sound (IDs.nil))) rfl Try.follows (f := 7) (fn := Try.f7) Try.func7 (by kernel_rfl) (by kernel_rfl) r7_eq
end Go.Proofs.Ytmengjdjjnhajaa
end

section
/- What function 12 (slipway/slipwaylaw09.full) computes, by the kernel. -/
open Go Go.Proofs.AM
namespace Go.Proofs.Ytmengjdjjnhajaa

noncomputable def m12 (x : (Int × (Int × ((List Int) × Bool))) × Unit) : Option ((List Int) × Unit) :=
  bif x.1.2.2.2 then
    (some (x.1.2.2.1, ()))
  else
    (bif (decide ((((List.length x.1.2.2.1) : Nat) : Int) = (0 : Int))) then
      (some (x.1.2.2.1, ()))
    else
      (if (((List.length x.1.2.2.1) : Nat) : Int) = (0 : Int) then
        (none)
      else
        (Option.bind (m28 (x.1.2.2.1, ((Go.IntKind.wrap .i64 ((Go.IntKind.wrap .i64 (Int.tdiv (256 : Int) (((List.length x.1.2.2.1) : Nat) : Int))) + (1 : Int))), ()))) fun (y1 : ((List Int) × Unit)) =>
        gd ((256 : Int) ≤ (((List.length y1.1) : Nat) : Int)) (some ((List.take ((Int.toNat (256 : Int)) - (Int.toNat (0 : Int))) (List.drop (Int.toNat (0 : Int)) y1.1)), ())))))

noncomputable def r12 : PDen [(true, (.pair (.int .i64) (.pair (.int .i64) (.pair (.sl (.int .u8)) .bool))))] → Option (PDen [(false, (.sl (.int .u8)))]) := fun x => afun Try.prog (envOf [(28, ⟨[(false, (.sl (.int .u8))), (false, (.int .i64))], [(false, (.sl (.int .u8)))], false, m28⟩)] [] [] []) ⟨[], []⟩ Try.f12 [(true, (.pair (.int .i64) (.pair (.int .i64) (.pair (.sl (.int .u8)) .bool))))] [(false, (.sl (.int .u8)))] true x
theorem r12_eq : r12 = m12 := by kernel_rfl

theorem c12 : CS.Sound Try.prog 12 ⟨[(true, (.pair (.int .i64) (.pair (.int .i64) (.pair (.sl (.int .u8)) .bool))))], [(false, (.sl (.int .u8)))], true, m12⟩ := afun_sound' (envOf_sound (CSs.cons c28 (CSs.nil)) (HDs.nil) (IDs.nil)) rfl Try.follows (f := 12) (fn := Try.f12) Try.func12 (by kernel_rfl) (by kernel_rfl) r12_eq
end Go.Proofs.Ytmengjdjjnhajaa
end

section
/- What function 13 ((*slipway/slipwayref09.Disk).Size) computes, by the kernel. -/
open Go Go.Proofs.AM
namespace Go.Proofs.Ytmengjdjjnhajaa

noncomputable def m13 (x : ((List (List Int)) × ((List Bool) × (Bool × (Bool × (Int × (Int × (List (Int × (List Int))))))))) × Unit) : Option (Int × Unit) :=
  some ((((List.length x.1.1) : Nat) : Int), ())

noncomputable def r13 : PDen [(false, (.rp (.pair (.sl (.sl (.int .u8))) (.pair (.sl .bool) (.pair .bool (.pair .bool (.pair (.int .i64) (.pair (.int .i64) (.sl (.pair (.int .i64) (.sl (.int .u8))))))))))))] → Option (PDen [(false, (.int .i64))]) := fun x => afun Try.prog (envOf [] [] [] []) ⟨[], []⟩ Try.f13 [(false, (.rp (.pair (.sl (.sl (.int .u8))) (.pair (.sl .bool) (.pair .bool (.pair .bool (.pair (.int .i64) (.pair (.int .i64) (.sl (.pair (.int .i64) (.sl (.int .u8))))))))))))] [(false, (.int .i64))] false x
theorem r13_eq : r13 = m13 := by kernel_rfl

theorem c13 : CS.Sound Try.prog 13 ⟨[(false, (.rp (.pair (.sl (.sl (.int .u8))) (.pair (.sl .bool) (.pair .bool (.pair .bool (.pair (.int .i64) (.pair (.int .i64) (.sl (.pair (.int .i64) (.sl (.int .u8))))))))))))], [(false, (.int .i64))], false, m13⟩ := afun_sound' (envOf_sound (CSs.nil) (HDs.nil) (IDs.nil)) rfl Try.follows (f := 13) (fn := Try.f13) Try.func13 (by kernel_rfl) (by kernel_rfl) r13_eq
end Go.Proofs.Ytmengjdjjnhajaa
end

section
/- What function 38 ((*slipway/slipwayref09.Disk).there) computes, by the kernel. -/
open Go Go.Proofs.AM
namespace Go.Proofs.Ytmengjdjjnhajaa

noncomputable def m38 (x : ((List (List Int)) × ((List Bool) × (Bool × (Bool × (Int × (Int × (List (Int × (List Int))))))))) × Int × Unit) : Option (Bool × Unit) :=
  bif (decide (x.2.1 ≥ (0 : Int))) then
    (some ((decide (x.2.1 < (((List.length x.1.1) : Nat) : Int))), ()))
  else
    (some (false, ()))

noncomputable def r38 : PDen [(false, (.rp (.pair (.sl (.sl (.int .u8))) (.pair (.sl .bool) (.pair .bool (.pair .bool (.pair (.int .i64) (.pair (.int .i64) (.sl (.pair (.int .i64) (.sl (.int .u8)))))))))))), (false, (.int .i64))] → Option (PDen [(false, .bool)]) := fun x => afun Try.prog (envOf [] [] [] []) ⟨[], []⟩ Try.f38 [(false, (.rp (.pair (.sl (.sl (.int .u8))) (.pair (.sl .bool) (.pair .bool (.pair .bool (.pair (.int .i64) (.pair (.int .i64) (.sl (.pair (.int .i64) (.sl (.int .u8)))))))))))), (false, (.int .i64))] [(false, .bool)] false x
theorem r38_eq : r38 = m38 := by kernel_rfl

theorem c38 : CS.Sound Try.prog 38 ⟨[(false, (.rp (.pair (.sl (.sl (.int .u8))) (.pair (.sl .bool) (.pair .bool (.pair .bool (.pair (.int .i64) (.pair (.int .i64) (.sl (.pair (.int .i64) (.sl (.int .u8)))))))))))), (false, (.int .i64))], [(false, .bool)], false, m38⟩ := afun_sound' (envOf_sound (CSs.nil) (HDs.nil) (IDs.nil)) rfl Try.follows (f := 38) (fn := Try.f38) Try.func38 (by kernel_rfl) (by kernel_rfl) r38_eq
end Go.Proofs.Ytmengjdjjnhajaa
end

section
/- What function 39 (slipway/slipwayref09.copied) computes, by the kernel. -/
open Go Go.Proofs.AM
namespace Go.Proofs.Ytmengjdjjnhajaa

noncomputable def m39 (x : (List Int) × Unit) : Option ((List Int) × Unit) :=
  gd ((((List.length ([] : List Int)) + (List.length x.1)) * 1) ≤ 140737488355328) (gd (((List.length ([] : List Int)) + (List.length x.1)) ≤ 140737488355328) (some ((([] : List Int) ++ x.1), ())))

noncomputable def r39 : PDen [(false, (.sl (.int .u8)))] → Option (PDen [(false, (.sl (.int .u8)))]) := fun x => afun Try.prog (envOf [] [] [] []) ⟨[], []⟩ Try.f39 [(false, (.sl (.int .u8)))] [(false, (.sl (.int .u8)))] false x
theorem r39_eq : r39 = m39 := by kernel_rfl

theorem c39 : CS.Sound Try.prog 39 ⟨[(false, (.sl (.int .u8)))], [(false, (.sl (.int .u8)))], false, m39⟩ := afun_sound' (envOf_sound (CSs.nil) (HDs.nil) (IDs.nil)) rfl Try.follows (f := 39) (fn := Try.f39) Try.func39 (by kernel_rfl) (by kernel_rfl) r39_eq
end Go.Proofs.Ytmengjdjjnhajaa
end

section
/- What function 40 ((*slipway/slipwayref09.Disk).Read) computes, by the kernel. -/
open Go Go.Proofs.AM
namespace Go.Proofs.Ytmengjdjjnhajaa

noncomputable def m40 (x : ((List (List Int)) × ((List Bool) × (Bool × (Bool × (Int × (Int × (List (Int × (List Int))))))))) × Int × Unit) : Option ((List Int) × (Int × Unit)) :=
  bif x.1.2.2.1 then
    (some (([] : List Int), ((8 : Int), ())))
  else
    (Option.bind (m38 (x.1, (x.2.1, ()))) fun (y1 : (Bool × Unit)) =>
    bif (!y1.1) then
      (some (([] : List Int), ((1 : Int), ())))
    else
      (gd ((0 : Int) ≤ x.2.1) (gd (x.2.1 < (((List.length x.1.2.1) : Nat) : Int)) (bif (List.getD x.1.2.1 (Int.toNat x.2.1) false) then
            (some (([] : List Int), ((80 : Int), ())))
          else
            (gd ((0 : Int) ≤ x.2.1) (gd (x.2.1 < (((List.length x.1.1) : Nat) : Int)) (Option.bind (m39 ((List.getD x.1.1 (Int.toNat x.2.1) ([] : List Int)), ())) fun (y2 : ((List Int) × Unit)) =>
                some (y2.1, ((0 : Int), ())))))))))

noncomputable def r40 : PDen [(false, (.rp (.pair (.sl (.sl (.int .u8))) (.pair (.sl .bool) (.pair .bool (.pair .bool (.pair (.int .i64) (.pair (.int .i64) (.sl (.pair (.int .i64) (.sl (.int .u8)))))))))))), (false, (.int .i64))] → Option (PDen [(false, (.sl (.int .u8))), (false, (.int .i64))]) := fun x => afun Try.prog (envOf [(38, ⟨[(false, (.rp (.pair (.sl (.sl (.int .u8))) (.pair (.sl .bool) (.pair .bool (.pair .bool (.pair (.int .i64) (.pair (.int .i64) (.sl (.pair (.int .i64) (.sl (.int .u8)))))))))))), (false, (.int .i64))], [(false, .bool)], false, m38⟩), (39, ⟨[(false, (.sl (.int .u8)))], [(false, (.sl (.int .u8)))], false, m39⟩)] [] [] []) ⟨[], []⟩ Try.f40 [(false, (.rp (.pair (.sl (.sl (.int .u8))) (.pair (.sl .bool) (.pair .bool (.pair .bool (.pair (.int .i64) (.pair (.int .i64) (.sl (.pair (.int .i64) (.sl (.int .u8)))))))))))), (false, (.int .i64))] [(false, (.sl (.int .u8))), (false, (.int .i64))] false x
theorem r40_eq : r40 = m40 := by kernel_rfl

theorem c40 : CS.Sound Try.prog 40 ⟨[(false, (.rp (.pair (.sl (.sl (.int .u8))) (.pair (.sl .bool) (.pair .bool (.pair .bool (.pair (.int .i64) (.pair (.int .i64) (.sl (.pair (.int .i64) (.sl (.int .u8)))))))))))), (false, (.int .i64))], [(false, (.sl (.int .u8))), (false, (.int .i64))], false, m40⟩ := afun_sound' (envOf_sound (CSs.cons c38 (CSs.cons c39 (CSs.nil))) (HDs.nil) (IDs.nil)) rfl Try.follows (f := 40) (fn := Try.f40) Try.func40 (by kernel_rfl) (by kernel_rfl) r40_eq
end Go.Proofs.Ytmengjdjjnhajaa
end

section
/- What function 18 (slipway/slipwayref09.Image) computes, by the kernel. -/
open Go Go.Proofs.AM
namespace Go.Proofs.Ytmengjdjjnhajaa

noncomputable def m18 (x : ((List (List Int)) × ((List Bool) × (Bool × (Bool × (Int × (Int × (List (Int × (List Int))))))))) × Unit) : Option ((List (List Int)) × (Int × Unit)) :=
  Option.bind (loopM (X := ((List (List Int)) × Int)) (E := ((List (List Int)) ⊕ ((List (List Int)) × Int))) (fun (x1 : ((List (List Int)) × Int)) =>
      Option.bind (m13 (x.1, ())) fun (y2 : (Int × Unit)) =>
      bif (decide (x1.2 < y2.1)) then
        (Option.bind (m40 (x.1, (x1.2, ()))) fun (y3 : ((List Int) × (Int × Unit))) =>
        bif (!(decide (y3.2.1 = (0 : Int)))) then
          (some (Sum.inr (Sum.inr (([] : List (List Int)), y3.2.1))))
        else
          (gd ((((List.length x1.1) + (List.length (y3.1 :: ([] : List (List Int))))) * 24) ≤ 140737488355328) (gd (((List.length x1.1) + (List.length (y3.1 :: ([] : List (List Int))))) ≤ 140737488355328) (some (Sum.inl ((x1.1 ++ (y3.1 :: ([] : List (List Int)))), (Go.IntKind.wrap .i64 (x1.2 + (1 : Int)))))))))
      else
        (some (Sum.inr (Sum.inl x1.1)))) (([] : List (List Int)), (0 : Int))) fun (y1 : ((List (List Int)) ⊕ ((List (List Int)) × Int))) =>
  Sum.elim (fun y2 =>
    some (y2, ((0 : Int), ()))) (fun y2 =>
    some (y2.1, (y2.2, ()))) y1

noncomputable def r18 : PDen [(false, (.rp (.pair (.sl (.sl (.int .u8))) (.pair (.sl .bool) (.pair .bool (.pair .bool (.pair (.int .i64) (.pair (.int .i64) (.sl (.pair (.int .i64) (.sl (.int .u8))))))))))))] → Option (PDen [(false, (.sl (.sl (.int .u8)))), (false, (.int .i64))]) := fun x => afun Try.prog (envOf [(13, ⟨[(false, (.rp (.pair (.sl (.sl (.int .u8))) (.pair (.sl .bool) (.pair .bool (.pair .bool (.pair (.int .i64) (.pair (.int .i64) (.sl (.pair (.int .i64) (.sl (.int .u8))))))))))))], [(false, (.int .i64))], false, m13⟩), (40, ⟨[(false, (.rp (.pair (.sl (.sl (.int .u8))) (.pair (.sl .bool) (.pair .bool (.pair .bool (.pair (.int .i64) (.pair (.int .i64) (.sl (.pair (.int .i64) (.sl (.int .u8)))))))))))), (false, (.int .i64))], [(false, (.sl (.int .u8))), (false, (.int .i64))], false, m40⟩)] [] [] []) ⟨[(0, ⟨[.slot 4 (.v 32 (.sl (.int .u8)) true), .slot 5 (.d false (.int .i64) true)], [], [(some 0, [.slot 4 (.v 32 (.sl (.int .u8)) true)]), (none, [.slot 2 (.d false (.sl (.sl (.int .u8))) true), .slot 3 (.d false (.int .i64) true)])], none⟩)], []⟩ Try.f18 [(false, (.rp (.pair (.sl (.sl (.int .u8))) (.pair (.sl .bool) (.pair .bool (.pair .bool (.pair (.int .i64) (.pair (.int .i64) (.sl (.pair (.int .i64) (.sl (.int .u8))))))))))))] [(false, (.sl (.sl (.int .u8)))), (false, (.int .i64))] false x
theorem r18_eq : r18 = m18 := by kernel_rfl

theorem c18 : CS.Sound Try.prog 18 ⟨[(false, (.rp (.pair (.sl (.sl (.int .u8))) (.pair (.sl .bool) (.pair .bool (.pair .bool (.pair (.int .i64) (.pair (.int .i64) (.sl (.pair (.int .i64) (.sl (.int .u8))))))))))))], [(false, (.sl (.sl (.int .u8)))), (false, (.int .i64))], false, m18⟩ := afun_sound' (envOf_sound (CSs.cons c13 (CSs.cons c40 (CSs.nil))) (HDs.nil) (IDs.nil)) rfl Try.follows (f := 18) (fn := Try.f18) Try.func18 (by kernel_rfl) (by kernel_rfl) r18_eq
end Go.Proofs.Ytmengjdjjnhajaa
end

section
/- What function 19 (slipway/slipwayref09.SameImage) computes, by the kernel. -/
open Go Go.Proofs.AM
namespace Go.Proofs.Ytmengjdjjnhajaa

noncomputable def m19 (x : (List (List Int)) × (List (List Int)) × Unit) : Option (Bool × Unit) :=
  bif (!(decide ((((List.length x.1) : Nat) : Int) = (((List.length x.2.1) : Nat) : Int)))) then
    (some (false, ()))
  else
    (Option.bind (loopM (X := Int) (E := (Unit ⊕ Bool)) (fun (x1 : Int) =>
        bif (decide (x1 < (((List.length x.1) : Nat) : Int))) then
          (gd ((0 : Int) ≤ x1) (gd (x1 < (((List.length x.1) : Nat) : Int)) (gd ((0 : Int) ≤ x1) (gd (x1 < (((List.length x.2.1) : Nat) : Int)) (bif (!(streq (Go.strOfNums (List.getD x.1 (Int.toNat x1) ([] : List Int))) (Go.strOfNums (List.getD x.2.1 (Int.toNat x1) ([] : List Int))))) then
                    (some (Sum.inr (Sum.inr false)))
                  else
                    (some (Sum.inl (Go.IntKind.wrap .i64 (x1 + (1 : Int))))))))))
        else
          (some (Sum.inr (Sum.inl ())))) (0 : Int)) fun (y1 : (Unit ⊕ Bool)) =>
    Sum.elim (fun y2 =>
      some (true, ())) (fun y2 =>
      some (y2, ())) y1)

noncomputable def r19 : PDen [(false, (.sl (.sl (.int .u8)))), (false, (.sl (.sl (.int .u8))))] → Option (PDen [(false, .bool)]) := fun x => afun Try.prog (envOf [] [] [] []) ⟨[(0, ⟨[.slot 5 (.d false (.int .i64) true)], [], [(some 0, []), (none, [.slot 4 (.d false .bool true)])], none⟩)], []⟩ Try.f19 [(false, (.sl (.sl (.int .u8)))), (false, (.sl (.sl (.int .u8))))] [(false, .bool)] false x
theorem r19_eq : r19 = m19 := by kernel_rfl

theorem c19 : CS.Sound Try.prog 19 ⟨[(false, (.sl (.sl (.int .u8)))), (false, (.sl (.sl (.int .u8))))], [(false, .bool)], false, m19⟩ := afun_sound' (envOf_sound (CSs.nil) (HDs.nil) (IDs.nil)) rfl Try.follows (f := 19) (fn := Try.f19) Try.func19 (by kernel_rfl) (by kernel_rfl) r19_eq
end Go.Proofs.Ytmengjdjjnhajaa
end

section
/- What function 21 ((*slipway/disk.RAM).Writes) computes, by the kernel. -/
open Go Go.Proofs.AM
namespace Go.Proofs.Ytmengjdjjnhajaa

noncomputable def m21 (x : ((List (List Int)) × ((List Bool) × (Bool × (Bool × (Int × (Int × (List (Int × (List Int))))))))) × Unit) : Option (Int × Unit) :=
  Option.bind (m34 (x.1, ())) fun (y1 : (Bool × Unit)) =>
  bif y1.1 then
    (some ((0 : Int), ()))
  else
    (some (x.1.2.2.2.2.2.1, ()))

noncomputable def r21 : PDen [(false, (.rp (.pair (.sl (.sl (.int .u8))) (.pair (.sl .bool) (.pair .bool (.pair .bool (.pair (.int .i64) (.pair (.int .i64) (.sl (.pair (.int .i64) (.sl (.int .u8))))))))))))] → Option (PDen [(false, (.int .i64))]) := fun x => afun Try.prog (envOf [(34, ⟨[(false, (.rp (.pair (.sl (.sl (.int .u8))) (.pair (.sl .bool) (.pair .bool (.pair .bool (.pair (.int .i64) (.pair (.int .i64) (.sl (.pair (.int .i64) (.sl (.int .u8))))))))))))], [(false, .bool)], false, m34⟩)] [] [] []) ⟨[], []⟩ Try.f21 [(false, (.rp (.pair (.sl (.sl (.int .u8))) (.pair (.sl .bool) (.pair .bool (.pair .bool (.pair (.int .i64) (.pair (.int .i64) (.sl (.pair (.int .i64) (.sl (.int .u8))))))))))))] [(false, (.int .i64))] false x
theorem r21_eq : r21 = m21 := by kernel_rfl

theorem c21 : CS.Sound Try.prog 21 ⟨[(false, (.rp (.pair (.sl (.sl (.int .u8))) (.pair (.sl .bool) (.pair .bool (.pair .bool (.pair (.int .i64) (.pair (.int .i64) (.sl (.pair (.int .i64) (.sl (.int .u8))))))))))))], [(false, (.int .i64))], false, m21⟩ := afun_sound' (envOf_sound (CSs.cons c34 (CSs.nil)) (HDs.nil) (IDs.nil)) rfl Try.follows (f := 21) (fn := Try.f21) Try.func21 (by kernel_rfl) (by kernel_rfl) r21_eq
end Go.Proofs.Ytmengjdjjnhajaa
end

section
/- What function 22 ((*slipway/disk.RAM).Size) computes, by the kernel. -/
open Go Go.Proofs.AM
namespace Go.Proofs.Ytmengjdjjnhajaa

noncomputable def m22 (x : ((List (List Int)) × ((List Bool) × (Bool × (Bool × (Int × (Int × (List (Int × (List Int))))))))) × Unit) : Option (Int × Unit) :=
  Option.bind (m34 (x.1, ())) fun (y1 : (Bool × Unit)) =>
  bif y1.1 then
    (some ((0 : Int), ()))
  else
    (some ((((List.length x.1.1) : Nat) : Int), ()))

noncomputable def r22 : PDen [(false, (.rp (.pair (.sl (.sl (.int .u8))) (.pair (.sl .bool) (.pair .bool (.pair .bool (.pair (.int .i64) (.pair (.int .i64) (.sl (.pair (.int .i64) (.sl (.int .u8))))))))))))] → Option (PDen [(false, (.int .i64))]) := fun x => afun Try.prog (envOf [(34, ⟨[(false, (.rp (.pair (.sl (.sl (.int .u8))) (.pair (.sl .bool) (.pair .bool (.pair .bool (.pair (.int .i64) (.pair (.int .i64) (.sl (.pair (.int .i64) (.sl (.int .u8))))))))))))], [(false, .bool)], false, m34⟩)] [] [] []) ⟨[], []⟩ Try.f22 [(false, (.rp (.pair (.sl (.sl (.int .u8))) (.pair (.sl .bool) (.pair .bool (.pair .bool (.pair (.int .i64) (.pair (.int .i64) (.sl (.pair (.int .i64) (.sl (.int .u8))))))))))))] [(false, (.int .i64))] false x
theorem r22_eq : r22 = m22 := by kernel_rfl

theorem c22 : CS.Sound Try.prog 22 ⟨[(false, (.rp (.pair (.sl (.sl (.int .u8))) (.pair (.sl .bool) (.pair .bool (.pair .bool (.pair (.int .i64) (.pair (.int .i64) (.sl (.pair (.int .i64) (.sl (.int .u8))))))))))))], [(false, (.int .i64))], false, m22⟩ := afun_sound' (envOf_sound (CSs.cons c34 (CSs.nil)) (HDs.nil) (IDs.nil)) rfl Try.follows (f := 22) (fn := Try.f22) Try.func22 (by kernel_rfl) (by kernel_rfl) r22_eq
end Go.Proofs.Ytmengjdjjnhajaa
end

section
/- What function 32 ((*slipway/disk.RAM).Flush) computes, by the kernel. -/
open Go Go.Proofs.AM
namespace Go.Proofs.Ytmengjdjjnhajaa

noncomputable def m32 (x : ((List (List Int)) × ((List Bool) × (Bool × (Bool × (Int × (Int × (List (Int × (List Int))))))))) × Unit) : Option (Int × Unit) :=
  Option.bind (m35 (x.1, ())) fun (y1 : (Int × Unit)) =>
  some (y1.1, ())

noncomputable def r32 : PDen [(false, (.rp (.pair (.sl (.sl (.int .u8))) (.pair (.sl .bool) (.pair .bool (.pair .bool (.pair (.int .i64) (.pair (.int .i64) (.sl (.pair (.int .i64) (.sl (.int .u8))))))))))))] → Option (PDen [(false, (.int .i64))]) := fun x => afun Try.prog (envOf [(35, ⟨[(false, (.rp (.pair (.sl (.sl (.int .u8))) (.pair (.sl .bool) (.pair .bool (.pair .bool (.pair (.int .i64) (.pair (.int .i64) (.sl (.pair (.int .i64) (.sl (.int .u8))))))))))))], [(false, (.int .i64))], false, m35⟩)] [] [] []) ⟨[], []⟩ Try.f32 [(false, (.rp (.pair (.sl (.sl (.int .u8))) (.pair (.sl .bool) (.pair .bool (.pair .bool (.pair (.int .i64) (.pair (.int .i64) (.sl (.pair (.int .i64) (.sl (.int .u8))))))))))))] [(false, (.int .i64))] false x
theorem r32_eq : r32 = m32 := by kernel_rfl

theorem c32 : CS.Sound Try.prog 32 ⟨[(false, (.rp (.pair (.sl (.sl (.int .u8))) (.pair (.sl .bool) (.pair .bool (.pair .bool (.pair (.int .i64) (.pair (.int .i64) (.sl (.pair (.int .i64) (.sl (.int .u8))))))))))))], [(false, (.int .i64))], false, m32⟩ := afun_sound' (envOf_sound (CSs.cons c35 (CSs.nil)) (HDs.nil) (IDs.nil)) rfl Try.follows (f := 32) (fn := Try.f32) Try.func32 (by kernel_rfl) (by kernel_rfl) r32_eq
end Go.Proofs.Ytmengjdjjnhajaa
end

section
/- What function 41 ((*slipway/slipwayref09.Disk).Flush) computes, by the kernel. -/
open Go Go.Proofs.AM
namespace Go.Proofs.Ytmengjdjjnhajaa

noncomputable def m41 (x : ((List (List Int)) × ((List Bool) × (Bool × (Bool × (Int × (Int × (List (Int × (List Int))))))))) × Unit) : Option (Int × Unit) :=
  bif x.1.2.2.1 then
    (some ((8 : Int), ()))
  else
    (some ((0 : Int), ()))

noncomputable def r41 : PDen [(false, (.rp (.pair (.sl (.sl (.int .u8))) (.pair (.sl .bool) (.pair .bool (.pair .bool (.pair (.int .i64) (.pair (.int .i64) (.sl (.pair (.int .i64) (.sl (.int .u8))))))))))))] → Option (PDen [(false, (.int .i64))]) := fun x => afun Try.prog (envOf [] [] [] []) ⟨[], []⟩ Try.f41 [(false, (.rp (.pair (.sl (.sl (.int .u8))) (.pair (.sl .bool) (.pair .bool (.pair .bool (.pair (.int .i64) (.pair (.int .i64) (.sl (.pair (.int .i64) (.sl (.int .u8))))))))))))] [(false, (.int .i64))] false x
theorem r41_eq : r41 = m41 := by kernel_rfl

theorem c41 : CS.Sound Try.prog 41 ⟨[(false, (.rp (.pair (.sl (.sl (.int .u8))) (.pair (.sl .bool) (.pair .bool (.pair .bool (.pair (.int .i64) (.pair (.int .i64) (.sl (.pair (.int .i64) (.sl (.int .u8))))))))))))], [(false, (.int .i64))], false, m41⟩ := afun_sound' (envOf_sound (CSs.nil) (HDs.nil) (IDs.nil)) rfl Try.follows (f := 41) (fn := Try.f41) Try.func41 (by kernel_rfl) (by kernel_rfl) r41_eq
end Go.Proofs.Ytmengjdjjnhajaa
end

section
/- What function 15 ((*slipway/slipwayref09.Disk).Write) computes, by the kernel. -/
open Go Go.Proofs.AM
namespace Go.Proofs.Ytmengjdjjnhajaa

noncomputable def m15 (x : ((List (List Int)) × ((List Bool) × (Bool × (Bool × (Int × (Int × (List (Int × (List Int))))))))) × Int × (List Int) × Unit) : Option (((List (List Int)) × ((List Bool) × (Bool × (Bool × (Int × (Int × (List (Int × (List Int))))))))) × (Int × Unit)) :=
  bif x.1.2.2.1 then
    (some (x.1, ((8 : Int), ())))
  else
    (Option.bind (m38 (x.1, (x.2.1, ()))) fun (y1 : (Bool × Unit)) =>
    bif (!y1.1) then
      (some (x.1, ((1 : Int), ())))
    else
      (bif (!(decide ((((List.length x.2.2.1) : Nat) : Int) = (256 : Int)))) then
        (some (x.1, ((1 : Int), ())))
      else
        (bif x.1.2.2.2.1 then
          (bif (decide (x.1.2.2.2.2.1 = (0 : Int))) then
            (some ((x.1.1, (x.1.2.1, (true, x.1.2.2.2))), ((8 : Int), ())))
          else
            (bif x.1.2.2.2.1 then
              (Option.bind (m39 (x.2.2.1, ())) fun (y2 : ((List Int) × Unit)) =>
              gd ((0 : Int) ≤ x.2.1) (gd (x.2.1 < (((List.length x.1.1) : Nat) : Int)) (gd ((Int.toNat x.2.1) < (List.length x.1.1)) (gd ((0 : Int) ≤ x.2.1) (gd (x.2.1 < (((List.length x.1.2.1) : Nat) : Int)) (gd ((Int.toNat x.2.1) < (List.length x.1.2.1)) (Option.bind (m39 (x.2.2.1, ())) fun (y3 : ((List Int) × Unit)) =>
                          gd ((((List.length x.1.2.2.2.2.2.2) + (List.length ((x.2.1, y3.1) :: ([] : List (Int × (List Int)))))) * 32) ≤ 140737488355328) (gd (((List.length x.1.2.2.2.2.2.2) + (List.length ((x.2.1, y3.1) :: ([] : List (Int × (List Int)))))) ≤ 140737488355328) (some (((List.set x.1.1 (Int.toNat x.2.1) y2.1), ((List.set x.1.2.1 (Int.toNat x.2.1) false), (x.1.2.2.1, (x.1.2.2.2.1, ((Go.IntKind.wrap .i64 (x.1.2.2.2.2.1 - (1 : Int))), ((Go.IntKind.wrap .i64 (x.1.2.2.2.2.2.1 + (1 : Int))), (x.1.2.2.2.2.2.2 ++ ((x.2.1, y3.1) :: ([] : List (Int × (List Int))))))))))), ((0 : Int), ())))))))))))
            else
              (Option.bind (m39 (x.2.2.1, ())) fun (y2 : ((List Int) × Unit)) =>
              gd ((0 : Int) ≤ x.2.1) (gd (x.2.1 < (((List.length x.1.1) : Nat) : Int)) (gd ((Int.toNat x.2.1) < (List.length x.1.1)) (gd ((0 : Int) ≤ x.2.1) (gd (x.2.1 < (((List.length x.1.2.1) : Nat) : Int)) (gd ((Int.toNat x.2.1) < (List.length x.1.2.1)) (Option.bind (m39 (x.2.2.1, ())) fun (y3 : ((List Int) × Unit)) =>
                          gd ((((List.length x.1.2.2.2.2.2.2) + (List.length ((x.2.1, y3.1) :: ([] : List (Int × (List Int)))))) * 32) ≤ 140737488355328) (gd (((List.length x.1.2.2.2.2.2.2) + (List.length ((x.2.1, y3.1) :: ([] : List (Int × (List Int)))))) ≤ 140737488355328) (some (((List.set x.1.1 (Int.toNat x.2.1) y2.1), ((List.set x.1.2.1 (Int.toNat x.2.1) false), (x.1.2.2.1, (x.1.2.2.2.1, (x.1.2.2.2.2.1, ((Go.IntKind.wrap .i64 (x.1.2.2.2.2.2.1 + (1 : Int))), (x.1.2.2.2.2.2.2 ++ ((x.2.1, y3.1) :: ([] : List (Int × (List Int))))))))))), ((0 : Int), ())))))))))))))
        else
          (bif x.1.2.2.2.1 then
            (Option.bind (m39 (x.2.2.1, ())) fun (y2 : ((List Int) × Unit)) =>
            gd ((0 : Int) ≤ x.2.1) (gd (x.2.1 < (((List.length x.1.1) : Nat) : Int)) (gd ((Int.toNat x.2.1) < (List.length x.1.1)) (gd ((0 : Int) ≤ x.2.1) (gd (x.2.1 < (((List.length x.1.2.1) : Nat) : Int)) (gd ((Int.toNat x.2.1) < (List.length x.1.2.1)) (Option.bind (m39 (x.2.2.1, ())) fun (y3 : ((List Int) × Unit)) =>
                        gd ((((List.length x.1.2.2.2.2.2.2) + (List.length ((x.2.1, y3.1) :: ([] : List (Int × (List Int)))))) * 32) ≤ 140737488355328) (gd (((List.length x.1.2.2.2.2.2.2) + (List.length ((x.2.1, y3.1) :: ([] : List (Int × (List Int)))))) ≤ 140737488355328) (some (((List.set x.1.1 (Int.toNat x.2.1) y2.1), ((List.set x.1.2.1 (Int.toNat x.2.1) false), (x.1.2.2.1, (x.1.2.2.2.1, ((Go.IntKind.wrap .i64 (x.1.2.2.2.2.1 - (1 : Int))), ((Go.IntKind.wrap .i64 (x.1.2.2.2.2.2.1 + (1 : Int))), (x.1.2.2.2.2.2.2 ++ ((x.2.1, y3.1) :: ([] : List (Int × (List Int))))))))))), ((0 : Int), ())))))))))))
          else
            (Option.bind (m39 (x.2.2.1, ())) fun (y2 : ((List Int) × Unit)) =>
            gd ((0 : Int) ≤ x.2.1) (gd (x.2.1 < (((List.length x.1.1) : Nat) : Int)) (gd ((Int.toNat x.2.1) < (List.length x.1.1)) (gd ((0 : Int) ≤ x.2.1) (gd (x.2.1 < (((List.length x.1.2.1) : Nat) : Int)) (gd ((Int.toNat x.2.1) < (List.length x.1.2.1)) (Option.bind (m39 (x.2.2.1, ())) fun (y3 : ((List Int) × Unit)) =>
                        gd ((((List.length x.1.2.2.2.2.2.2) + (List.length ((x.2.1, y3.1) :: ([] : List (Int × (List Int)))))) * 32) ≤ 140737488355328) (gd (((List.length x.1.2.2.2.2.2.2) + (List.length ((x.2.1, y3.1) :: ([] : List (Int × (List Int)))))) ≤ 140737488355328) (some (((List.set x.1.1 (Int.toNat x.2.1) y2.1), ((List.set x.1.2.1 (Int.toNat x.2.1) false), (x.1.2.2.1, (x.1.2.2.2.1, (x.1.2.2.2.2.1, ((Go.IntKind.wrap .i64 (x.1.2.2.2.2.2.1 + (1 : Int))), (x.1.2.2.2.2.2.2 ++ ((x.2.1, y3.1) :: ([] : List (Int × (List Int))))))))))), ((0 : Int), ())))))))))))))))

noncomputable def r15 : PDen ((true, (.pair (.sl (.sl (.int .u8))) (.pair (.sl .bool) (.pair .bool (.pair .bool (.pair (.int .i64) (.pair (.int .i64) (.sl (.pair (.int .i64) (.sl (.int .u8))))))))))) :: [(false, (.int .i64)), (false, (.sl (.int .u8)))]) → Option (PDen ((true, (.pair (.sl (.sl (.int .u8))) (.pair (.sl .bool) (.pair .bool (.pair .bool (.pair (.int .i64) (.pair (.int .i64) (.sl (.pair (.int .i64) (.sl (.int .u8))))))))))) :: [(false, (.int .i64))])) := fun x => afunIO Try.prog (envOf [(38, ⟨[(false, (.rp (.pair (.sl (.sl (.int .u8))) (.pair (.sl .bool) (.pair .bool (.pair .bool (.pair (.int .i64) (.pair (.int .i64) (.sl (.pair (.int .i64) (.sl (.int .u8)))))))))))), (false, (.int .i64))], [(false, .bool)], false, m38⟩), (39, ⟨[(false, (.sl (.int .u8)))], [(false, (.sl (.int .u8)))], false, m39⟩)] [] [] []) ⟨[], []⟩ Try.f15 49 (.pair (.sl (.sl (.int .u8))) (.pair (.sl .bool) (.pair .bool (.pair .bool (.pair (.int .i64) (.pair (.int .i64) (.sl (.pair (.int .i64) (.sl (.int .u8)))))))))) (.p (.s 32) (.p (.s 4) (.p .d (.p .d (.p .d (.p .d (.s 77))))))) [(false, (.int .i64)), (false, (.sl (.int .u8)))] [(false, (.int .i64))] x
theorem r15_eq : r15 = m15 := by kernel_rfl

theorem c15 : IOc.Sound Try.prog 15 ⟨49, (.pair (.sl (.sl (.int .u8))) (.pair (.sl .bool) (.pair .bool (.pair .bool (.pair (.int .i64) (.pair (.int .i64) (.sl (.pair (.int .i64) (.sl (.int .u8)))))))))), (.p (.s 32) (.p (.s 4) (.p .d (.p .d (.p .d (.p .d (.s 77))))))), [(false, (.int .i64)), (false, (.sl (.int .u8)))], [(false, (.int .i64))], m15⟩ := afunIO_sound' (envOf_sound (CSs.cons c38 (CSs.cons c39 (CSs.nil))) (HDs.nil) (IDs.nil)) rfl Try.follows (f := 15) (fn := Try.f15) Try.func15 (by kernel_rfl) (by kernel_rfl) r15_eq
end Go.Proofs.Ytmengjdjjnhajaa
end

section
/- What function 33 ((*slipway/disk.RAM).Hurt) computes, by the kernel. -/
open Go Go.Proofs.AM
namespace Go.Proofs.Ytmengjdjjnhajaa

noncomputable def m33 (x : ((List (List Int)) × ((List Bool) × (Bool × (Bool × (Int × (Int × (List (Int × (List Int))))))))) × Int × Unit) : Option (((List (List Int)) × ((List Bool) × (Bool × (Bool × (Int × (Int × (List (Int × (List Int))))))))) × (Int × Unit)) :=
  Option.bind (m34 (x.1, ())) fun (y1 : (Bool × Unit)) =>
  bif y1.1 then
    (some (x.1, ((2 : Int), ())))
  else
    (Option.bind (m36 (x.1, (x.2.1, ()))) fun (y2 : (Bool × Unit)) =>
    bif (!y2.1) then
      (some (x.1, ((1 : Int), ())))
    else
      (gd ((0 : Int) ≤ x.2.1) (gd (x.2.1 < (((List.length x.1.2.1) : Nat) : Int)) (gd ((Int.toNat x.2.1) < (List.length x.1.2.1)) (some ((x.1.1, ((List.set x.1.2.1 (Int.toNat x.2.1) true), x.1.2.2)), ((0 : Int), ())))))))

noncomputable def r33 : PDen ((true, (.pair (.sl (.sl (.int .u8))) (.pair (.sl .bool) (.pair .bool (.pair .bool (.pair (.int .i64) (.pair (.int .i64) (.sl (.pair (.int .i64) (.sl (.int .u8))))))))))) :: [(false, (.int .i64))]) → Option (PDen ((true, (.pair (.sl (.sl (.int .u8))) (.pair (.sl .bool) (.pair .bool (.pair .bool (.pair (.int .i64) (.pair (.int .i64) (.sl (.pair (.int .i64) (.sl (.int .u8))))))))))) :: [(false, (.int .i64))])) := fun x => afunIO Try.prog (envOf [(34, ⟨[(false, (.rp (.pair (.sl (.sl (.int .u8))) (.pair (.sl .bool) (.pair .bool (.pair .bool (.pair (.int .i64) (.pair (.int .i64) (.sl (.pair (.int .i64) (.sl (.int .u8))))))))))))], [(false, .bool)], false, m34⟩), (36, ⟨[(false, (.rp (.pair (.sl (.sl (.int .u8))) (.pair (.sl .bool) (.pair .bool (.pair .bool (.pair (.int .i64) (.pair (.int .i64) (.sl (.pair (.int .i64) (.sl (.int .u8)))))))))))), (false, (.int .i64))], [(false, .bool)], false, m36⟩)] [] [] []) ⟨[], []⟩ Try.f33 64 (.pair (.sl (.sl (.int .u8))) (.pair (.sl .bool) (.pair .bool (.pair .bool (.pair (.int .i64) (.pair (.int .i64) (.sl (.pair (.int .i64) (.sl (.int .u8)))))))))) (.p (.s 32) (.p (.s 4) (.p .d (.p .d (.p .d (.p .d (.s 75))))))) [(false, (.int .i64))] [(false, (.int .i64))] x
theorem r33_eq : r33 = m33 := by kernel_rfl

theorem c33 : IOc.Sound Try.prog 33 ⟨64, (.pair (.sl (.sl (.int .u8))) (.pair (.sl .bool) (.pair .bool (.pair .bool (.pair (.int .i64) (.pair (.int .i64) (.sl (.pair (.int .i64) (.sl (.int .u8)))))))))), (.p (.s 32) (.p (.s 4) (.p .d (.p .d (.p .d (.p .d (.s 75))))))), [(false, (.int .i64))], [(false, (.int .i64))], m33⟩ := afunIO_sound' (envOf_sound (CSs.cons c34 (CSs.cons c36 (CSs.nil))) (HDs.nil) (IDs.nil)) rfl Try.follows (f := 33) (fn := Try.f33) Try.func33 (by kernel_rfl) (by kernel_rfl) r33_eq
end Go.Proofs.Ytmengjdjjnhajaa
end

section
/- What function 42 ((*slipway/slipwayref09.Disk).CutAfter) computes, by the kernel. -/
open Go Go.Proofs.AM
namespace Go.Proofs.Ytmengjdjjnhajaa

noncomputable def m42 (x : ((List (List Int)) × ((List Bool) × (Bool × (Bool × (Int × (Int × (List (Int × (List Int))))))))) × Int × Unit) : Option (((List (List Int)) × ((List Bool) × (Bool × (Bool × (Int × (Int × (List (Int × (List Int))))))))) × Unit) :=
  some ((x.1.1, (x.1.2.1, (x.1.2.2.1, ((decide (x.2.1 ≥ (0 : Int))), ((if (0 : Int) > x.2.1 then (0 : Int) else x.2.1), x.1.2.2.2.2.2))))), ())

noncomputable def r42 : PDen ((true, (.pair (.sl (.sl (.int .u8))) (.pair (.sl .bool) (.pair .bool (.pair .bool (.pair (.int .i64) (.pair (.int .i64) (.sl (.pair (.int .i64) (.sl (.int .u8))))))))))) :: [(false, (.int .i64))]) → Option (PDen ((true, (.pair (.sl (.sl (.int .u8))) (.pair (.sl .bool) (.pair .bool (.pair .bool (.pair (.int .i64) (.pair (.int .i64) (.sl (.pair (.int .i64) (.sl (.int .u8))))))))))) :: [])) := fun x => afunIO Try.prog (envOf [] [] [] []) ⟨[], []⟩ Try.f42 49 (.pair (.sl (.sl (.int .u8))) (.pair (.sl .bool) (.pair .bool (.pair .bool (.pair (.int .i64) (.pair (.int .i64) (.sl (.pair (.int .i64) (.sl (.int .u8)))))))))) (.p (.s 32) (.p (.s 4) (.p .d (.p .d (.p .d (.p .d (.s 77))))))) [(false, (.int .i64))] [] x
theorem r42_eq : r42 = m42 := by kernel_rfl

theorem c42 : IOc.Sound Try.prog 42 ⟨49, (.pair (.sl (.sl (.int .u8))) (.pair (.sl .bool) (.pair .bool (.pair .bool (.pair (.int .i64) (.pair (.int .i64) (.sl (.pair (.int .i64) (.sl (.int .u8)))))))))), (.p (.s 32) (.p (.s 4) (.p .d (.p .d (.p .d (.p .d (.s 77))))))), [(false, (.int .i64))], [], m42⟩ := afunIO_sound' (envOf_sound (CSs.nil) (HDs.nil) (IDs.nil)) rfl Try.follows (f := 42) (fn := Try.f42) Try.func42 (by kernel_rfl) (by kernel_rfl) r42_eq
end Go.Proofs.Ytmengjdjjnhajaa
end

section
/- What function 43 ((*slipway/slipwayref09.Disk).Restart) computes, by the kernel. -/
open Go Go.Proofs.AM
namespace Go.Proofs.Ytmengjdjjnhajaa

noncomputable def m43 (x : ((List (List Int)) × ((List Bool) × (Bool × (Bool × (Int × (Int × (List (Int × (List Int))))))))) × Unit) : Option (((List (List Int)) × ((List Bool) × (Bool × (Bool × (Int × (Int × (List (Int × (List Int))))))))) × Unit) :=
  some ((x.1.1, (x.1.2.1, (false, (false, x.1.2.2.2.2)))), ())

noncomputable def r43 : PDen ((true, (.pair (.sl (.sl (.int .u8))) (.pair (.sl .bool) (.pair .bool (.pair .bool (.pair (.int .i64) (.pair (.int .i64) (.sl (.pair (.int .i64) (.sl (.int .u8))))))))))) :: []) → Option (PDen ((true, (.pair (.sl (.sl (.int .u8))) (.pair (.sl .bool) (.pair .bool (.pair .bool (.pair (.int .i64) (.pair (.int .i64) (.sl (.pair (.int .i64) (.sl (.int .u8))))))))))) :: [])) := fun x => afunIO Try.prog (envOf [] [] [] []) ⟨[], []⟩ Try.f43 49 (.pair (.sl (.sl (.int .u8))) (.pair (.sl .bool) (.pair .bool (.pair .bool (.pair (.int .i64) (.pair (.int .i64) (.sl (.pair (.int .i64) (.sl (.int .u8)))))))))) (.p (.s 32) (.p (.s 4) (.p .d (.p .d (.p .d (.p .d (.s 77))))))) [] [] x
theorem r43_eq : r43 = m43 := by kernel_rfl

theorem c43 : IOc.Sound Try.prog 43 ⟨49, (.pair (.sl (.sl (.int .u8))) (.pair (.sl .bool) (.pair .bool (.pair .bool (.pair (.int .i64) (.pair (.int .i64) (.sl (.pair (.int .i64) (.sl (.int .u8)))))))))), (.p (.s 32) (.p (.s 4) (.p .d (.p .d (.p .d (.p .d (.s 77))))))), [], [], m43⟩ := afunIO_sound' (envOf_sound (CSs.nil) (HDs.nil) (IDs.nil)) rfl Try.follows (f := 43) (fn := Try.f43) Try.func43 (by kernel_rfl) (by kernel_rfl) r43_eq
end Go.Proofs.Ytmengjdjjnhajaa
end

section
/- What function 44 ((*slipway/slipwayref09.Disk).Hurt) computes, by the kernel. -/
open Go Go.Proofs.AM
namespace Go.Proofs.Ytmengjdjjnhajaa

noncomputable def m44 (x : ((List (List Int)) × ((List Bool) × (Bool × (Bool × (Int × (Int × (List (Int × (List Int))))))))) × Int × Unit) : Option (((List (List Int)) × ((List Bool) × (Bool × (Bool × (Int × (Int × (List (Int × (List Int))))))))) × (Int × Unit)) :=
  Option.bind (m38 (x.1, (x.2.1, ()))) fun (y1 : (Bool × Unit)) =>
  bif (!y1.1) then
    (some (x.1, ((1 : Int), ())))
  else
    (gd ((0 : Int) ≤ x.2.1) (gd (x.2.1 < (((List.length x.1.2.1) : Nat) : Int)) (gd ((Int.toNat x.2.1) < (List.length x.1.2.1)) (some ((x.1.1, ((List.set x.1.2.1 (Int.toNat x.2.1) true), x.1.2.2)), ((0 : Int), ()))))))

noncomputable def r44 : PDen ((true, (.pair (.sl (.sl (.int .u8))) (.pair (.sl .bool) (.pair .bool (.pair .bool (.pair (.int .i64) (.pair (.int .i64) (.sl (.pair (.int .i64) (.sl (.int .u8))))))))))) :: [(false, (.int .i64))]) → Option (PDen ((true, (.pair (.sl (.sl (.int .u8))) (.pair (.sl .bool) (.pair .bool (.pair .bool (.pair (.int .i64) (.pair (.int .i64) (.sl (.pair (.int .i64) (.sl (.int .u8))))))))))) :: [(false, (.int .i64))])) := fun x => afunIO Try.prog (envOf [(38, ⟨[(false, (.rp (.pair (.sl (.sl (.int .u8))) (.pair (.sl .bool) (.pair .bool (.pair .bool (.pair (.int .i64) (.pair (.int .i64) (.sl (.pair (.int .i64) (.sl (.int .u8)))))))))))), (false, (.int .i64))], [(false, .bool)], false, m38⟩)] [] [] []) ⟨[], []⟩ Try.f44 49 (.pair (.sl (.sl (.int .u8))) (.pair (.sl .bool) (.pair .bool (.pair .bool (.pair (.int .i64) (.pair (.int .i64) (.sl (.pair (.int .i64) (.sl (.int .u8)))))))))) (.p (.s 32) (.p (.s 4) (.p .d (.p .d (.p .d (.p .d (.s 77))))))) [(false, (.int .i64))] [(false, (.int .i64))] x
theorem r44_eq : r44 = m44 := by kernel_rfl

theorem c44 : IOc.Sound Try.prog 44 ⟨49, (.pair (.sl (.sl (.int .u8))) (.pair (.sl .bool) (.pair .bool (.pair .bool (.pair (.int .i64) (.pair (.int .i64) (.sl (.pair (.int .i64) (.sl (.int .u8)))))))))), (.p (.s 32) (.p (.s 4) (.p .d (.p .d (.p .d (.p .d (.s 77))))))), [(false, (.int .i64))], [(false, (.int .i64))], m44⟩ := afunIO_sound' (envOf_sound (CSs.cons c38 (CSs.nil)) (HDs.nil) (IDs.nil)) rfl Try.follows (f := 44) (fn := Try.f44) Try.func44 (by kernel_rfl) (by kernel_rfl) r44_eq
end Go.Proofs.Ytmengjdjjnhajaa
end

section
/- What function 46 (slices.Clone(()bool,bool)) computes, by the kernel. -/
open Go Go.Proofs.AM
namespace Go.Proofs.Ytmengjdjjnhajaa

noncomputable def m46 (x : (List Bool) × Unit) : Option ((List Bool) × ((List Bool) × Unit)) :=
  both (bif (decide ((((List.length x.1) : Nat) : Int) = (0 : Int))) then
      (some (x.1, (([] : List Bool), ())))
    else
      (gd ((((List.length ([] : List Bool)) + (List.length x.1)) * 1) ≤ 140737488355328) (gd (((List.length ([] : List Bool)) + (List.length x.1)) ≤ 140737488355328) (some (x.1, ((([] : List Bool) ++ x.1), ())))))) (gd ((((List.length ([] : List Bool)) + (List.length x.1)) * 1) ≤ 140737488355328) (gd (((List.length ([] : List Bool)) + (List.length x.1)) ≤ 140737488355328) (some (x.1, ((([] : List Bool) ++ x.1), ())))))

noncomputable def r46 : PDen ((false, (.sl .bool)) :: []) → Option (PDen ((false, (.sl .bool)) :: [(false, (.sl .bool))])) := fun x => afunIR Try.prog (envOf [] [] [] []) ⟨[], []⟩ Try.f46 4 .bool [] [(false, (.sl .bool))] [(.s 4)] x
theorem r46_eq : r46 = m46 := by kernel_rfl

theorem c46 : IRc.Sound Try.prog 46 ⟨4, .bool, [], [(false, (.sl .bool))], [(.s 4)], m46⟩ := afunIR_sound' (envOf_sound (CSs.nil) (HDs.nil) (IDs.nil)) rfl Try.follows (f := 46) (fn := Try.f46) Try.func46 (by kernel_rfl) (by kernel_rfl) r46_eq
end Go.Proofs.Ytmengjdjjnhajaa
end

section
/- What function 47 (slices.Clone(()slipway/disk.written,slipway/disk.written)) computes, by the kernel. -/
open Go Go.Proofs.AM
namespace Go.Proofs.Ytmengjdjjnhajaa

noncomputable def m47 (x : (List (Int × (List Int))) × Unit) : Option ((List (Int × (List Int))) × ((List (Int × (List Int))) × Unit)) :=
  both (bif (decide ((((List.length x.1) : Nat) : Int) = (0 : Int))) then
      (some (x.1, (([] : List (Int × (List Int))), ())))
    else
      (gd ((((List.length ([] : List (Int × (List Int)))) + (List.length x.1)) * 32) ≤ 140737488355328) (gd (((List.length ([] : List (Int × (List Int)))) + (List.length x.1)) ≤ 140737488355328) (some (x.1, ((([] : List (Int × (List Int))) ++ x.1), ())))))) (gd ((((List.length ([] : List (Int × (List Int)))) + (List.length x.1)) * 32) ≤ 140737488355328) (gd (((List.length ([] : List (Int × (List Int)))) + (List.length x.1)) ≤ 140737488355328) (some (x.1, ((([] : List (Int × (List Int))) ++ x.1), ())))))

noncomputable def r47 : PDen ((false, (.sl (.pair (.int .i64) (.sl (.int .u8))))) :: []) → Option (PDen ((false, (.sl (.pair (.int .i64) (.sl (.int .u8))))) :: [(false, (.sl (.pair (.int .i64) (.sl (.int .u8)))))])) := fun x => afunIR Try.prog (envOf [] [] [] []) ⟨[], []⟩ Try.f47 75 (.pair (.int .i64) (.sl (.int .u8))) [] [(false, (.sl (.pair (.int .i64) (.sl (.int .u8)))))] [(.s 75)] x
theorem r47_eq : r47 = m47 := by kernel_rfl

theorem c47 : IRc.Sound Try.prog 47 ⟨75, (.pair (.int .i64) (.sl (.int .u8))), [], [(false, (.sl (.pair (.int .i64) (.sl (.int .u8)))))], [(.s 75)], m47⟩ := afunIR_sound' (envOf_sound (CSs.nil) (HDs.nil) (IDs.nil)) rfl Try.follows (f := 47) (fn := Try.f47) Try.func47 (by kernel_rfl) (by kernel_rfl) r47_eq
end Go.Proofs.Ytmengjdjjnhajaa
end

section
/- What function 4 (slipway/slipwaylaw09.DiskDoes) computes, by the kernel. -/
open Go Go.Proofs.AM
namespace Go.Proofs.Ytmengjdjjnhajaa

noncomputable def m4 (x : Int × (List (Int × (Int × ((List Int) × Bool)))) × Unit) : Option (Bool × Unit) :=
  Option.bind (m7 ()) fun (y1 : (Bool × Unit)) =>
  bif (!y1.1) then
    (some (false, ()))
  else
    (bif (decide (x.1 < (1 : Int))) then
      (bif (decide (x.1 < (1 : Int))) then
        (bif (!(decide ((1 : Int) = (1 : Int)))) then
          (some (false, ()))
        else
          (some (true, ())))
      else
        (bif (decide (x.1 > (8192 : Int))) then
          (bif (!(decide ((1 : Int) = (1 : Int)))) then
            (some (false, ()))
          else
            (some (true, ())))
        else
          (gd ((0 : Int) ≤ x.1) (gd (x.1 ≤ x.1) (gd ((x.1 * (1 : Int)) ≤ (140737488355328 : Int)) (Option.bind (loopM (X := (Int × ((List (List Int)) × ((List Bool) × (Bool × (Bool × (Int × (Int × (List (Int × (List Int))))))))))) (E := ((List (List Int)) × ((List Bool) × (Bool × (Bool × (Int × (Int × (List (Int × (List Int)))))))))) (fun (x2 : (Int × ((List (List Int)) × ((List Bool) × (Bool × (Bool × (Int × (Int × (List (Int × (List Int))))))))))) =>
                    bif (decide (x2.1 < x.1)) then
                      (gd (((256 : Int) * (1 : Int)) ≤ (140737488355328 : Int)) (gd ((((List.length x2.2.1) + (List.length ((List.replicate (Int.toNat (256 : Int)) (0 : Int)) :: ([] : List (List Int))))) * 24) ≤ 140737488355328) (gd (((List.length x2.2.1) + (List.length ((List.replicate (Int.toNat (256 : Int)) (0 : Int)) :: ([] : List (List Int))))) ≤ 140737488355328) (some (Sum.inl ((Go.IntKind.wrap .i64 (x2.1 + (1 : Int))), ((x2.2.1 ++ ((List.replicate (Int.toNat (256 : Int)) (0 : Int)) :: ([] : List (List Int)))), (x2.2.2.1, (x2.2.2.2.1, (x2.2.2.2.2.1, (x2.2.2.2.2.2.1, (x2.2.2.2.2.2.2.1, x2.2.2.2.2.2.2.2))))))))))))
                    else
                      (some (Sum.inr (x2.2.1, (x2.2.2.1, (x2.2.2.2.1, (x2.2.2.2.2.1, (x2.2.2.2.2.2.1, (x2.2.2.2.2.2.2.1, x2.2.2.2.2.2.2.2))))))))) ((0 : Int), (([] : List (List Int)), ((List.replicate (Int.toNat x.1) false), (false, (false, ((0 : Int), ((0 : Int), ([] : List (Int × (List Int))))))))))) fun (y2 : ((List (List Int)) × ((List Bool) × (Bool × (Bool × (Int × (Int × (List (Int × (List Int)))))))))) =>
                bif (!(decide ((1 : Int) = (0 : Int)))) then
                  (some (false, ()))
                else
                  (some (false, ()))))))))
    else
      (bif (decide (x.1 > (8192 : Int))) then
        (bif (decide (x.1 < (1 : Int))) then
          (bif (!(decide ((1 : Int) = (1 : Int)))) then
            (some (false, ()))
          else
            (some (true, ())))
        else
          (bif (decide (x.1 > (8192 : Int))) then
            (bif (!(decide ((1 : Int) = (1 : Int)))) then
              (some (false, ()))
            else
              (some (true, ())))
          else
            (gd ((0 : Int) ≤ x.1) (gd (x.1 ≤ x.1) (gd ((x.1 * (1 : Int)) ≤ (140737488355328 : Int)) (Option.bind (loopM (X := (Int × ((List (List Int)) × ((List Bool) × (Bool × (Bool × (Int × (Int × (List (Int × (List Int))))))))))) (E := ((List (List Int)) × ((List Bool) × (Bool × (Bool × (Int × (Int × (List (Int × (List Int)))))))))) (fun (x2 : (Int × ((List (List Int)) × ((List Bool) × (Bool × (Bool × (Int × (Int × (List (Int × (List Int))))))))))) =>
                      bif (decide (x2.1 < x.1)) then
                        (gd (((256 : Int) * (1 : Int)) ≤ (140737488355328 : Int)) (gd ((((List.length x2.2.1) + (List.length ((List.replicate (Int.toNat (256 : Int)) (0 : Int)) :: ([] : List (List Int))))) * 24) ≤ 140737488355328) (gd (((List.length x2.2.1) + (List.length ((List.replicate (Int.toNat (256 : Int)) (0 : Int)) :: ([] : List (List Int))))) ≤ 140737488355328) (some (Sum.inl ((Go.IntKind.wrap .i64 (x2.1 + (1 : Int))), ((x2.2.1 ++ ((List.replicate (Int.toNat (256 : Int)) (0 : Int)) :: ([] : List (List Int)))), (x2.2.2.1, (x2.2.2.2.1, (x2.2.2.2.2.1, (x2.2.2.2.2.2.1, (x2.2.2.2.2.2.2.1, x2.2.2.2.2.2.2.2))))))))))))
                      else
                        (some (Sum.inr (x2.2.1, (x2.2.2.1, (x2.2.2.2.1, (x2.2.2.2.2.1, (x2.2.2.2.2.2.1, (x2.2.2.2.2.2.2.1, x2.2.2.2.2.2.2.2))))))))) ((0 : Int), (([] : List (List Int)), ((List.replicate (Int.toNat x.1) false), (false, (false, ((0 : Int), ((0 : Int), ([] : List (Int × (List Int))))))))))) fun (y2 : ((List (List Int)) × ((List Bool) × (Bool × (Bool × (Int × (Int × (List (Int × (List Int)))))))))) =>
                  bif (!(decide ((1 : Int) = (0 : Int)))) then
                    (some (false, ()))
                  else
                    (some (false, ()))))))))
      else
        (gd ((0 : Int) ≤ x.1) (gd (x.1 ≤ x.1) (gd ((x.1 * (1 : Int)) ≤ (140737488355328 : Int)) (Option.bind (loopM (X := (Int × ((List (List Int)) × ((List Bool) × (Bool × (Bool × (Int × (Int × (List (Int × (List Int))))))))))) (E := ((List (List Int)) × ((List Bool) × (Bool × (Bool × (Int × (Int × (List (Int × (List Int)))))))))) (fun (x2 : (Int × ((List (List Int)) × ((List Bool) × (Bool × (Bool × (Int × (Int × (List (Int × (List Int))))))))))) =>
                  bif (decide (x2.1 < x.1)) then
                    (gd (((256 : Int) * (1 : Int)) ≤ (140737488355328 : Int)) (gd ((((List.length x2.2.1) + (List.length ((List.replicate (Int.toNat (256 : Int)) (0 : Int)) :: ([] : List (List Int))))) * 24) ≤ 140737488355328) (gd (((List.length x2.2.1) + (List.length ((List.replicate (Int.toNat (256 : Int)) (0 : Int)) :: ([] : List (List Int))))) ≤ 140737488355328) (some (Sum.inl ((Go.IntKind.wrap .i64 (x2.1 + (1 : Int))), ((x2.2.1 ++ ((List.replicate (Int.toNat (256 : Int)) (0 : Int)) :: ([] : List (List Int)))), (x2.2.2.1, (x2.2.2.2.1, (x2.2.2.2.2.1, (x2.2.2.2.2.2.1, (x2.2.2.2.2.2.2.1, x2.2.2.2.2.2.2.2))))))))))))
                  else
                    (some (Sum.inr (x2.2.1, (x2.2.2.1, (x2.2.2.2.1, (x2.2.2.2.2.1, (x2.2.2.2.2.2.1, (x2.2.2.2.2.2.2.1, x2.2.2.2.2.2.2.2))))))))) ((0 : Int), (([] : List (List Int)), ((List.replicate (Int.toNat x.1) false), (false, (false, ((0 : Int), ((0 : Int), ([] : List (Int × (List Int))))))))))) fun (y2 : ((List (List Int)) × ((List Bool) × (Bool × (Bool × (Int × (Int × (List (Int × (List Int)))))))))) =>
              bif (decide (x.1 < (1 : Int))) then
                (bif (!(decide ((0 : Int) = (1 : Int)))) then
                  (some (false, ()))
                else
                  (some (false, ())))
              else
                (bif (decide (x.1 > (8192 : Int))) then
                  (bif (!(decide ((0 : Int) = (1 : Int)))) then
                    (some (false, ()))
                  else
                    (some (false, ())))
                else
                  (gd ((0 : Int) ≤ x.1) (gd (x.1 ≤ x.1) (gd ((x.1 * (1 : Int)) ≤ (140737488355328 : Int)) (Option.bind (loopM (X := (Int × ((List (List Int)) × ((List Bool) × (Bool × (Bool × (Int × (Int × (List (Int × (List Int))))))))))) (E := ((List (List Int)) × ((List Bool) × (Bool × (Bool × (Int × (Int × (List (Int × (List Int)))))))))) (fun (x3 : (Int × ((List (List Int)) × ((List Bool) × (Bool × (Bool × (Int × (Int × (List (Int × (List Int))))))))))) =>
                            bif (decide (x3.1 < x.1)) then
                              (gd (((256 : Int) * (1 : Int)) ≤ (140737488355328 : Int)) (gd ((((List.length x3.2.1) + (List.length ((List.replicate (Int.toNat (256 : Int)) (0 : Int)) :: ([] : List (List Int))))) * 24) ≤ 140737488355328) (gd (((List.length x3.2.1) + (List.length ((List.replicate (Int.toNat (256 : Int)) (0 : Int)) :: ([] : List (List Int))))) ≤ 140737488355328) (some (Sum.inl ((Go.IntKind.wrap .i64 (x3.1 + (1 : Int))), ((x3.2.1 ++ ((List.replicate (Int.toNat (256 : Int)) (0 : Int)) :: ([] : List (List Int)))), (x3.2.2.1, (x3.2.2.2.1, (x3.2.2.2.2.1, (x3.2.2.2.2.2.1, (x3.2.2.2.2.2.2.1, x3.2.2.2.2.2.2.2))))))))))))
                            else
                              (some (Sum.inr (x3.2.1, (x3.2.2.1, (x3.2.2.2.1, (x3.2.2.2.2.1, (x3.2.2.2.2.2.1, (x3.2.2.2.2.2.2.1, x3.2.2.2.2.2.2.2))))))))) ((0 : Int), (([] : List (List Int)), ((List.replicate (Int.toNat x.1) false), (false, (false, ((0 : Int), ((0 : Int), ([] : List (Int × (List Int))))))))))) fun (y3 : ((List (List Int)) × ((List Bool) × (Bool × (Bool × (Int × (Int × (List (Int × (List Int)))))))))) =>
                        bif (!(decide ((0 : Int) = (0 : Int)))) then
                          (some (false, ()))
                        else
                          (bif (decide (x.1 > (64 : Int))) then
                            (some (true, ()))
                          else
                            (gd ((0 : Int) ≤ (if (120 : Int) < (((List.length x.2.1) : Nat) : Int) then (120 : Int) else (((List.length x.2.1) : Nat) : Int))) (gd ((if (120 : Int) < (((List.length x.2.1) : Nat) : Int) then (120 : Int) else (((List.length x.2.1) : Nat) : Int)) ≤ (((List.length x.2.1) : Nat) : Int)) (Option.bind (loopM (X := (Unit × ((List (List Int)) × ((List Bool) × (Bool × (Bool × (Int × (Int × ((List (Int × (List Int))) × (Int × ((List (List Int)) × ((List Bool) × (Bool × (Bool × (Int × (Int × (List (Int × (List Int))))))))))))))))))) (E := ((Unit × ((List (List Int)) × ((List Bool) × (Bool × (Bool × (Int × (Int × ((List (Int × (List Int))) × ((List (List Int)) × ((List Bool) × (Bool × (Bool × (Int × (Int × (List (Int × (List Int))))))))))))))))) ⊕ (Bool × ((List (List Int)) × ((List Bool) × (Bool × (Bool × (Int × (Int × (List (Int × (List Int)))))))))))) (fun (x4 : (Unit × ((List (List Int)) × ((List Bool) × (Bool × (Bool × (Int × (Int × ((List (Int × (List Int))) × (Int × ((List (List Int)) × ((List Bool) × (Bool × (Bool × (Int × (Int × (List (Int × (List Int))))))))))))))))))) =>
                                    bif (decide (x4.2.2.2.2.2.2.2.2.1 < (((List.length (List.take ((Int.toNat (if (120 : Int) < (((List.length x.2.1) : Nat) : Int) then (120 : Int) else (((List.length x.2.1) : Nat) : Int))) - (Int.toNat (0 : Int))) (List.drop (Int.toNat (0 : Int)) x.2.1))) : Nat) : Int))) then
                                      (gd ((0 : Int) ≤ x4.2.2.2.2.2.2.2.2.1) (gd (x4.2.2.2.2.2.2.2.2.1 < (((List.length (List.take ((Int.toNat (if (120 : Int) < (((List.length x.2.1) : Nat) : Int) then (120 : Int) else (((List.length x.2.1) : Nat) : Int))) - (Int.toNat (0 : Int))) (List.drop (Int.toNat (0 : Int)) x.2.1))) : Nat) : Int)) (bif (decide ((List.getD (List.take ((Int.toNat (if (120 : Int) < (((List.length x.2.1) : Nat) : Int) then (120 : Int) else (((List.length x.2.1) : Nat) : Int))) - (Int.toNat (0 : Int))) (List.drop (Int.toNat (0 : Int)) x.2.1)) (Int.toNat x4.2.2.2.2.2.2.2.2.1) ((0 : Int), ((0 : Int), (([] : List Int), false)))).1 = (0 : Int))) then
                                            (Option.bind (m29 ((x4.2.1, (x4.2.2.1, (x4.2.2.2.1, (x4.2.2.2.2.1, (x4.2.2.2.2.2.1, (x4.2.2.2.2.2.2.1, x4.2.2.2.2.2.2.2.1)))))), ((List.getD (List.take ((Int.toNat (if (120 : Int) < (((List.length x.2.1) : Nat) : Int) then (120 : Int) else (((List.length x.2.1) : Nat) : Int))) - (Int.toNat (0 : Int))) (List.drop (Int.toNat (0 : Int)) x.2.1)) (Int.toNat x4.2.2.2.2.2.2.2.2.1) ((0 : Int), ((0 : Int), (([] : List Int), false)))).2.1, ()))) fun (y5 : ((List Int) × (Int × Unit))) =>
                                            Option.bind (m40 (x4.2.2.2.2.2.2.2.2.2, ((List.getD (List.take ((Int.toNat (if (120 : Int) < (((List.length x.2.1) : Nat) : Int) then (120 : Int) else (((List.length x.2.1) : Nat) : Int))) - (Int.toNat (0 : Int))) (List.drop (Int.toNat (0 : Int)) x.2.1)) (Int.toNat x4.2.2.2.2.2.2.2.2.1) ((0 : Int), ((0 : Int), (([] : List Int), false)))).2.1, ()))) fun (y6 : ((List Int) × (Int × Unit))) =>
                                            Option.bind (m30 (y5.1, (y6.1, ()))) fun (y7 : (Bool × Unit)) =>
                                            bif y7.1 then
                                              (bif (!(decide (y5.2.1 = y6.2.1))) then
                                                (some (Sum.inr (Sum.inr (false, (x4.2.2.2.2.2.2.2.2.2.1, (x4.2.2.2.2.2.2.2.2.2.2.1, (x4.2.2.2.2.2.2.2.2.2.2.2.1, (x4.2.2.2.2.2.2.2.2.2.2.2.2.1, (x4.2.2.2.2.2.2.2.2.2.2.2.2.2.1, (x4.2.2.2.2.2.2.2.2.2.2.2.2.2.2.1, x4.2.2.2.2.2.2.2.2.2.2.2.2.2.2.2))))))))))
                                              else
                                                (Option.bind (m14 ((x4.2.1, (x4.2.2.1, (x4.2.2.2.1, (x4.2.2.2.2.1, (x4.2.2.2.2.2.1, (x4.2.2.2.2.2.2.1, x4.2.2.2.2.2.2.2.1)))))), ())) fun (y8 : (Bool × Unit)) =>
                                                bif (!(bif y8.1 then (!x4.2.2.2.2.2.2.2.2.2.2.2.1) else (!(!x4.2.2.2.2.2.2.2.2.2.2.2.1)))) then
                                                  (some (Sum.inr (Sum.inr (false, (x4.2.2.2.2.2.2.2.2.2.1, (x4.2.2.2.2.2.2.2.2.2.2.1, (x4.2.2.2.2.2.2.2.2.2.2.2.1, (x4.2.2.2.2.2.2.2.2.2.2.2.2.1, (x4.2.2.2.2.2.2.2.2.2.2.2.2.2.1, (x4.2.2.2.2.2.2.2.2.2.2.2.2.2.2.1, x4.2.2.2.2.2.2.2.2.2.2.2.2.2.2.2))))))))))
                                                else
                                                  (Option.bind (m21 ((x4.2.1, (x4.2.2.1, (x4.2.2.2.1, (x4.2.2.2.2.1, (x4.2.2.2.2.2.1, (x4.2.2.2.2.2.2.1, x4.2.2.2.2.2.2.2.1)))))), ())) fun (y9 : (Int × Unit)) =>
                                                  bif (!(decide (y9.1 = x4.2.2.2.2.2.2.2.2.2.2.2.2.2.2.1))) then
                                                    (some (Sum.inr (Sum.inr (false, (x4.2.2.2.2.2.2.2.2.2.1, (x4.2.2.2.2.2.2.2.2.2.2.1, (x4.2.2.2.2.2.2.2.2.2.2.2.1, (x4.2.2.2.2.2.2.2.2.2.2.2.2.1, (x4.2.2.2.2.2.2.2.2.2.2.2.2.2.1, (x4.2.2.2.2.2.2.2.2.2.2.2.2.2.2.1, x4.2.2.2.2.2.2.2.2.2.2.2.2.2.2.2))))))))))
                                                  else
                                                    (Option.bind (m22 ((x4.2.1, (x4.2.2.1, (x4.2.2.2.1, (x4.2.2.2.2.1, (x4.2.2.2.2.2.1, (x4.2.2.2.2.2.2.1, x4.2.2.2.2.2.2.2.1)))))), ())) fun (y10 : (Int × Unit)) =>
                                                    Option.bind (m13 (x4.2.2.2.2.2.2.2.2.2, ())) fun (y11 : (Int × Unit)) =>
                                                    bif (!(decide (y10.1 = y11.1))) then
                                                      (some (Sum.inr (Sum.inr (false, (x4.2.2.2.2.2.2.2.2.2.1, (x4.2.2.2.2.2.2.2.2.2.2.1, (x4.2.2.2.2.2.2.2.2.2.2.2.1, (x4.2.2.2.2.2.2.2.2.2.2.2.2.1, (x4.2.2.2.2.2.2.2.2.2.2.2.2.2.1, (x4.2.2.2.2.2.2.2.2.2.2.2.2.2.2.1, x4.2.2.2.2.2.2.2.2.2.2.2.2.2.2.2))))))))))
                                                    else
                                                      (some (Sum.inl ((), (x4.2.1, (x4.2.2.1, (x4.2.2.2.1, (x4.2.2.2.2.1, (x4.2.2.2.2.2.1, (x4.2.2.2.2.2.2.1, (x4.2.2.2.2.2.2.2.1, ((Go.IntKind.wrap .i64 (x4.2.2.2.2.2.2.2.2.1 + (1 : Int))), (x4.2.2.2.2.2.2.2.2.2.1, (x4.2.2.2.2.2.2.2.2.2.2.1, (x4.2.2.2.2.2.2.2.2.2.2.2.1, (x4.2.2.2.2.2.2.2.2.2.2.2.2.1, (x4.2.2.2.2.2.2.2.2.2.2.2.2.2.1, (x4.2.2.2.2.2.2.2.2.2.2.2.2.2.2.1, x4.2.2.2.2.2.2.2.2.2.2.2.2.2.2.2)))))))))))))))))))))
                                            else
                                              (some (Sum.inr (Sum.inr (false, (x4.2.2.2.2.2.2.2.2.2.1, (x4.2.2.2.2.2.2.2.2.2.2.1, (x4.2.2.2.2.2.2.2.2.2.2.2.1, (x4.2.2.2.2.2.2.2.2.2.2.2.2.1, (x4.2.2.2.2.2.2.2.2.2.2.2.2.2.1, (x4.2.2.2.2.2.2.2.2.2.2.2.2.2.2.1, x4.2.2.2.2.2.2.2.2.2.2.2.2.2.2.2)))))))))))
                                          else
                                            (bif (decide ((List.getD (List.take ((Int.toNat (if (120 : Int) < (((List.length x.2.1) : Nat) : Int) then (120 : Int) else (((List.length x.2.1) : Nat) : Int))) - (Int.toNat (0 : Int))) (List.drop (Int.toNat (0 : Int)) x.2.1)) (Int.toNat x4.2.2.2.2.2.2.2.2.1) ((0 : Int), ((0 : Int), (([] : List Int), false)))).1 = (1 : Int))) then
                                              (Option.bind (m12 ((List.getD (List.take ((Int.toNat (if (120 : Int) < (((List.length x.2.1) : Nat) : Int) then (120 : Int) else (((List.length x.2.1) : Nat) : Int))) - (Int.toNat (0 : Int))) (List.drop (Int.toNat (0 : Int)) x.2.1)) (Int.toNat x4.2.2.2.2.2.2.2.2.1) ((0 : Int), ((0 : Int), (([] : List Int), false)))), ())) fun (y5 : ((List Int) × Unit)) =>
                                              Option.bind (m11 ((x4.2.1, (x4.2.2.1, (x4.2.2.2.1, (x4.2.2.2.2.1, (x4.2.2.2.2.2.1, (x4.2.2.2.2.2.2.1, x4.2.2.2.2.2.2.2.1)))))), ((List.getD (List.take ((Int.toNat (if (120 : Int) < (((List.length x.2.1) : Nat) : Int) then (120 : Int) else (((List.length x.2.1) : Nat) : Int))) - (Int.toNat (0 : Int))) (List.drop (Int.toNat (0 : Int)) x.2.1)) (Int.toNat x4.2.2.2.2.2.2.2.2.1) ((0 : Int), ((0 : Int), (([] : List Int), false)))).2.1, (y5.1, ())))) fun (y6 : (((List (List Int)) × ((List Bool) × (Bool × (Bool × (Int × (Int × (List (Int × (List Int))))))))) × (Int × Unit))) =>
                                              Option.bind (m12 ((List.getD (List.take ((Int.toNat (if (120 : Int) < (((List.length x.2.1) : Nat) : Int) then (120 : Int) else (((List.length x.2.1) : Nat) : Int))) - (Int.toNat (0 : Int))) (List.drop (Int.toNat (0 : Int)) x.2.1)) (Int.toNat x4.2.2.2.2.2.2.2.2.1) ((0 : Int), ((0 : Int), (([] : List Int), false)))), ())) fun (y7 : ((List Int) × Unit)) =>
                                              Option.bind (m15 (x4.2.2.2.2.2.2.2.2.2, ((List.getD (List.take ((Int.toNat (if (120 : Int) < (((List.length x.2.1) : Nat) : Int) then (120 : Int) else (((List.length x.2.1) : Nat) : Int))) - (Int.toNat (0 : Int))) (List.drop (Int.toNat (0 : Int)) x.2.1)) (Int.toNat x4.2.2.2.2.2.2.2.2.1) ((0 : Int), ((0 : Int), (([] : List Int), false)))).2.1, (y7.1, ())))) fun (y8 : (((List (List Int)) × ((List Bool) × (Bool × (Bool × (Int × (Int × (List (Int × (List Int))))))))) × (Int × Unit))) =>
                                              bif (!(decide (y6.2.1 = y8.2.1))) then
                                                (some (Sum.inr (Sum.inr (false, (y8.1.1, (y8.1.2.1, (y8.1.2.2.1, (y8.1.2.2.2.1, (y8.1.2.2.2.2.1, (y8.1.2.2.2.2.2.1, y8.1.2.2.2.2.2.2))))))))))
                                              else
                                                (Option.bind (m14 (y6.1, ())) fun (y9 : (Bool × Unit)) =>
                                                bif (!(bif y9.1 then (!y8.1.2.2.1) else (!(!y8.1.2.2.1)))) then
                                                  (some (Sum.inr (Sum.inr (false, (y8.1.1, (y8.1.2.1, (y8.1.2.2.1, (y8.1.2.2.2.1, (y8.1.2.2.2.2.1, (y8.1.2.2.2.2.2.1, y8.1.2.2.2.2.2.2))))))))))
                                                else
                                                  (Option.bind (m21 (y6.1, ())) fun (y10 : (Int × Unit)) =>
                                                  bif (!(decide (y10.1 = y8.1.2.2.2.2.2.1))) then
                                                    (some (Sum.inr (Sum.inr (false, (y8.1.1, (y8.1.2.1, (y8.1.2.2.1, (y8.1.2.2.2.1, (y8.1.2.2.2.2.1, (y8.1.2.2.2.2.2.1, y8.1.2.2.2.2.2.2))))))))))
                                                  else
                                                    (Option.bind (m22 (y6.1, ())) fun (y11 : (Int × Unit)) =>
                                                    Option.bind (m13 (y8.1, ())) fun (y12 : (Int × Unit)) =>
                                                    bif (!(decide (y11.1 = y12.1))) then
                                                      (some (Sum.inr (Sum.inr (false, (y8.1.1, (y8.1.2.1, (y8.1.2.2.1, (y8.1.2.2.2.1, (y8.1.2.2.2.2.1, (y8.1.2.2.2.2.2.1, y8.1.2.2.2.2.2.2))))))))))
                                                    else
                                                      (some (Sum.inl ((), (y6.1.1, (y6.1.2.1, (y6.1.2.2.1, (y6.1.2.2.2.1, (y6.1.2.2.2.2.1, (y6.1.2.2.2.2.2.1, (y6.1.2.2.2.2.2.2, ((Go.IntKind.wrap .i64 (x4.2.2.2.2.2.2.2.2.1 + (1 : Int))), (y8.1.1, (y8.1.2.1, (y8.1.2.2.1, (y8.1.2.2.2.1, (y8.1.2.2.2.2.1, (y8.1.2.2.2.2.2.1, y8.1.2.2.2.2.2.2)))))))))))))))))))))
                                            else
                                              (bif (decide ((List.getD (List.take ((Int.toNat (if (120 : Int) < (((List.length x.2.1) : Nat) : Int) then (120 : Int) else (((List.length x.2.1) : Nat) : Int))) - (Int.toNat (0 : Int))) (List.drop (Int.toNat (0 : Int)) x.2.1)) (Int.toNat x4.2.2.2.2.2.2.2.2.1) ((0 : Int), ((0 : Int), (([] : List Int), false)))).1 = (2 : Int))) then
                                                (Option.bind (m32 ((x4.2.1, (x4.2.2.1, (x4.2.2.2.1, (x4.2.2.2.2.1, (x4.2.2.2.2.2.1, (x4.2.2.2.2.2.2.1, x4.2.2.2.2.2.2.2.1)))))), ())) fun (y5 : (Int × Unit)) =>
                                                Option.bind (m41 (x4.2.2.2.2.2.2.2.2.2, ())) fun (y6 : (Int × Unit)) =>
                                                bif (!(decide (y5.1 = y6.1))) then
                                                  (some (Sum.inr (Sum.inr (false, (x4.2.2.2.2.2.2.2.2.2.1, (x4.2.2.2.2.2.2.2.2.2.2.1, (x4.2.2.2.2.2.2.2.2.2.2.2.1, (x4.2.2.2.2.2.2.2.2.2.2.2.2.1, (x4.2.2.2.2.2.2.2.2.2.2.2.2.2.1, (x4.2.2.2.2.2.2.2.2.2.2.2.2.2.2.1, x4.2.2.2.2.2.2.2.2.2.2.2.2.2.2.2))))))))))
                                                else
                                                  (Option.bind (m14 ((x4.2.1, (x4.2.2.1, (x4.2.2.2.1, (x4.2.2.2.2.1, (x4.2.2.2.2.2.1, (x4.2.2.2.2.2.2.1, x4.2.2.2.2.2.2.2.1)))))), ())) fun (y7 : (Bool × Unit)) =>
                                                  bif (!(bif y7.1 then (!x4.2.2.2.2.2.2.2.2.2.2.2.1) else (!(!x4.2.2.2.2.2.2.2.2.2.2.2.1)))) then
                                                    (some (Sum.inr (Sum.inr (false, (x4.2.2.2.2.2.2.2.2.2.1, (x4.2.2.2.2.2.2.2.2.2.2.1, (x4.2.2.2.2.2.2.2.2.2.2.2.1, (x4.2.2.2.2.2.2.2.2.2.2.2.2.1, (x4.2.2.2.2.2.2.2.2.2.2.2.2.2.1, (x4.2.2.2.2.2.2.2.2.2.2.2.2.2.2.1, x4.2.2.2.2.2.2.2.2.2.2.2.2.2.2.2))))))))))
                                                  else
                                                    (Option.bind (m21 ((x4.2.1, (x4.2.2.1, (x4.2.2.2.1, (x4.2.2.2.2.1, (x4.2.2.2.2.2.1, (x4.2.2.2.2.2.2.1, x4.2.2.2.2.2.2.2.1)))))), ())) fun (y8 : (Int × Unit)) =>
                                                    bif (!(decide (y8.1 = x4.2.2.2.2.2.2.2.2.2.2.2.2.2.2.1))) then
                                                      (some (Sum.inr (Sum.inr (false, (x4.2.2.2.2.2.2.2.2.2.1, (x4.2.2.2.2.2.2.2.2.2.2.1, (x4.2.2.2.2.2.2.2.2.2.2.2.1, (x4.2.2.2.2.2.2.2.2.2.2.2.2.1, (x4.2.2.2.2.2.2.2.2.2.2.2.2.2.1, (x4.2.2.2.2.2.2.2.2.2.2.2.2.2.2.1, x4.2.2.2.2.2.2.2.2.2.2.2.2.2.2.2))))))))))
                                                    else
                                                      (Option.bind (m22 ((x4.2.1, (x4.2.2.1, (x4.2.2.2.1, (x4.2.2.2.2.1, (x4.2.2.2.2.2.1, (x4.2.2.2.2.2.2.1, x4.2.2.2.2.2.2.2.1)))))), ())) fun (y9 : (Int × Unit)) =>
                                                      Option.bind (m13 (x4.2.2.2.2.2.2.2.2.2, ())) fun (y10 : (Int × Unit)) =>
                                                      bif (!(decide (y9.1 = y10.1))) then
                                                        (some (Sum.inr (Sum.inr (false, (x4.2.2.2.2.2.2.2.2.2.1, (x4.2.2.2.2.2.2.2.2.2.2.1, (x4.2.2.2.2.2.2.2.2.2.2.2.1, (x4.2.2.2.2.2.2.2.2.2.2.2.2.1, (x4.2.2.2.2.2.2.2.2.2.2.2.2.2.1, (x4.2.2.2.2.2.2.2.2.2.2.2.2.2.2.1, x4.2.2.2.2.2.2.2.2.2.2.2.2.2.2.2))))))))))
                                                      else
                                                        (some (Sum.inl ((), (x4.2.1, (x4.2.2.1, (x4.2.2.2.1, (x4.2.2.2.2.1, (x4.2.2.2.2.2.1, (x4.2.2.2.2.2.2.1, (x4.2.2.2.2.2.2.2.1, ((Go.IntKind.wrap .i64 (x4.2.2.2.2.2.2.2.2.1 + (1 : Int))), (x4.2.2.2.2.2.2.2.2.2.1, (x4.2.2.2.2.2.2.2.2.2.2.1, (x4.2.2.2.2.2.2.2.2.2.2.2.1, (x4.2.2.2.2.2.2.2.2.2.2.2.2.1, (x4.2.2.2.2.2.2.2.2.2.2.2.2.2.1, (x4.2.2.2.2.2.2.2.2.2.2.2.2.2.2.1, x4.2.2.2.2.2.2.2.2.2.2.2.2.2.2.2)))))))))))))))))))))
                                              else
                                                (bif (decide ((List.getD (List.take ((Int.toNat (if (120 : Int) < (((List.length x.2.1) : Nat) : Int) then (120 : Int) else (((List.length x.2.1) : Nat) : Int))) - (Int.toNat (0 : Int))) (List.drop (Int.toNat (0 : Int)) x.2.1)) (Int.toNat x4.2.2.2.2.2.2.2.2.1) ((0 : Int), ((0 : Int), (([] : List Int), false)))).1 = (3 : Int))) then
                                                  (Option.bind (m10 ((x4.2.1, (x4.2.2.1, (x4.2.2.2.1, (x4.2.2.2.2.1, (x4.2.2.2.2.2.1, (x4.2.2.2.2.2.2.1, x4.2.2.2.2.2.2.2.1)))))), ((List.getD (List.take ((Int.toNat (if (120 : Int) < (((List.length x.2.1) : Nat) : Int) then (120 : Int) else (((List.length x.2.1) : Nat) : Int))) - (Int.toNat (0 : Int))) (List.drop (Int.toNat (0 : Int)) x.2.1)) (Int.toNat x4.2.2.2.2.2.2.2.2.1) ((0 : Int), ((0 : Int), (([] : List Int), false)))).2.1, ()))) fun (y5 : (((List (List Int)) × ((List Bool) × (Bool × (Bool × (Int × (Int × (List (Int × (List Int))))))))) × Unit)) =>
                                                  Option.bind (m42 (x4.2.2.2.2.2.2.2.2.2, ((List.getD (List.take ((Int.toNat (if (120 : Int) < (((List.length x.2.1) : Nat) : Int) then (120 : Int) else (((List.length x.2.1) : Nat) : Int))) - (Int.toNat (0 : Int))) (List.drop (Int.toNat (0 : Int)) x.2.1)) (Int.toNat x4.2.2.2.2.2.2.2.2.1) ((0 : Int), ((0 : Int), (([] : List Int), false)))).2.1, ()))) fun (y6 : (((List (List Int)) × ((List Bool) × (Bool × (Bool × (Int × (Int × (List (Int × (List Int))))))))) × Unit)) =>
                                                  Option.bind (m14 (y5.1, ())) fun (y7 : (Bool × Unit)) =>
                                                  bif (!(bif y7.1 then (!y6.1.2.2.1) else (!(!y6.1.2.2.1)))) then
                                                    (some (Sum.inr (Sum.inr (false, (y6.1.1, (y6.1.2.1, (y6.1.2.2.1, (y6.1.2.2.2.1, (y6.1.2.2.2.2.1, (y6.1.2.2.2.2.2.1, y6.1.2.2.2.2.2.2))))))))))
                                                  else
                                                    (Option.bind (m21 (y5.1, ())) fun (y8 : (Int × Unit)) =>
                                                    bif (!(decide (y8.1 = y6.1.2.2.2.2.2.1))) then
                                                      (some (Sum.inr (Sum.inr (false, (y6.1.1, (y6.1.2.1, (y6.1.2.2.1, (y6.1.2.2.2.1, (y6.1.2.2.2.2.1, (y6.1.2.2.2.2.2.1, y6.1.2.2.2.2.2.2))))))))))
                                                    else
                                                      (Option.bind (m22 (y5.1, ())) fun (y9 : (Int × Unit)) =>
                                                      Option.bind (m13 (y6.1, ())) fun (y10 : (Int × Unit)) =>
                                                      bif (!(decide (y9.1 = y10.1))) then
                                                        (some (Sum.inr (Sum.inr (false, (y6.1.1, (y6.1.2.1, (y6.1.2.2.1, (y6.1.2.2.2.1, (y6.1.2.2.2.2.1, (y6.1.2.2.2.2.2.1, y6.1.2.2.2.2.2.2))))))))))
                                                      else
                                                        (some (Sum.inl ((), (y5.1.1, (y5.1.2.1, (y5.1.2.2.1, (y5.1.2.2.2.1, (y5.1.2.2.2.2.1, (y5.1.2.2.2.2.2.1, (y5.1.2.2.2.2.2.2, ((Go.IntKind.wrap .i64 (x4.2.2.2.2.2.2.2.2.1 + (1 : Int))), (y6.1.1, (y6.1.2.1, (y6.1.2.2.1, (y6.1.2.2.2.1, (y6.1.2.2.2.2.1, (y6.1.2.2.2.2.2.1, y6.1.2.2.2.2.2.2))))))))))))))))))))
                                                else
                                                  (bif (decide ((List.getD (List.take ((Int.toNat (if (120 : Int) < (((List.length x.2.1) : Nat) : Int) then (120 : Int) else (((List.length x.2.1) : Nat) : Int))) - (Int.toNat (0 : Int))) (List.drop (Int.toNat (0 : Int)) x.2.1)) (Int.toNat x4.2.2.2.2.2.2.2.2.1) ((0 : Int), ((0 : Int), (([] : List Int), false)))).1 = (4 : Int))) then
                                                    (Option.bind (m16 ((x4.2.1, (x4.2.2.1, (x4.2.2.2.1, (x4.2.2.2.2.1, (x4.2.2.2.2.2.1, (x4.2.2.2.2.2.2.1, x4.2.2.2.2.2.2.2.1)))))), ())) fun (y5 : (((List (List Int)) × ((List Bool) × (Bool × (Bool × (Int × (Int × (List (Int × (List Int))))))))) × Unit)) =>
                                                    Option.bind (m43 (x4.2.2.2.2.2.2.2.2.2, ())) fun (y6 : (((List (List Int)) × ((List Bool) × (Bool × (Bool × (Int × (Int × (List (Int × (List Int))))))))) × Unit)) =>
                                                    Option.bind (m14 (y5.1, ())) fun (y7 : (Bool × Unit)) =>
                                                    bif (!(bif y7.1 then (!y6.1.2.2.1) else (!(!y6.1.2.2.1)))) then
                                                      (some (Sum.inr (Sum.inr (false, (y6.1.1, (y6.1.2.1, (y6.1.2.2.1, (y6.1.2.2.2.1, (y6.1.2.2.2.2.1, (y6.1.2.2.2.2.2.1, y6.1.2.2.2.2.2.2))))))))))
                                                    else
                                                      (Option.bind (m21 (y5.1, ())) fun (y8 : (Int × Unit)) =>
                                                      bif (!(decide (y8.1 = y6.1.2.2.2.2.2.1))) then
                                                        (some (Sum.inr (Sum.inr (false, (y6.1.1, (y6.1.2.1, (y6.1.2.2.1, (y6.1.2.2.2.1, (y6.1.2.2.2.2.1, (y6.1.2.2.2.2.2.1, y6.1.2.2.2.2.2.2))))))))))
                                                      else
                                                        (Option.bind (m22 (y5.1, ())) fun (y9 : (Int × Unit)) =>
                                                        Option.bind (m13 (y6.1, ())) fun (y10 : (Int × Unit)) =>
                                                        bif (!(decide (y9.1 = y10.1))) then
                                                          (some (Sum.inr (Sum.inr (false, (y6.1.1, (y6.1.2.1, (y6.1.2.2.1, (y6.1.2.2.2.1, (y6.1.2.2.2.2.1, (y6.1.2.2.2.2.2.1, y6.1.2.2.2.2.2.2))))))))))
                                                        else
                                                          (some (Sum.inl ((), (y5.1.1, (y5.1.2.1, (y5.1.2.2.1, (y5.1.2.2.2.1, (y5.1.2.2.2.2.1, (y5.1.2.2.2.2.2.1, (y5.1.2.2.2.2.2.2, ((Go.IntKind.wrap .i64 (x4.2.2.2.2.2.2.2.2.1 + (1 : Int))), (y6.1.1, (y6.1.2.1, (y6.1.2.2.1, (y6.1.2.2.2.1, (y6.1.2.2.2.2.1, (y6.1.2.2.2.2.2.1, y6.1.2.2.2.2.2.2))))))))))))))))))))
                                                  else
                                                    (bif (decide ((List.getD (List.take ((Int.toNat (if (120 : Int) < (((List.length x.2.1) : Nat) : Int) then (120 : Int) else (((List.length x.2.1) : Nat) : Int))) - (Int.toNat (0 : Int))) (List.drop (Int.toNat (0 : Int)) x.2.1)) (Int.toNat x4.2.2.2.2.2.2.2.2.1) ((0 : Int), ((0 : Int), (([] : List Int), false)))).1 = (5 : Int))) then
                                                      (Option.bind (m33 ((x4.2.1, (x4.2.2.1, (x4.2.2.2.1, (x4.2.2.2.2.1, (x4.2.2.2.2.2.1, (x4.2.2.2.2.2.2.1, x4.2.2.2.2.2.2.2.1)))))), ((List.getD (List.take ((Int.toNat (if (120 : Int) < (((List.length x.2.1) : Nat) : Int) then (120 : Int) else (((List.length x.2.1) : Nat) : Int))) - (Int.toNat (0 : Int))) (List.drop (Int.toNat (0 : Int)) x.2.1)) (Int.toNat x4.2.2.2.2.2.2.2.2.1) ((0 : Int), ((0 : Int), (([] : List Int), false)))).2.1, ()))) fun (y5 : (((List (List Int)) × ((List Bool) × (Bool × (Bool × (Int × (Int × (List (Int × (List Int))))))))) × (Int × Unit))) =>
                                                      Option.bind (m44 (x4.2.2.2.2.2.2.2.2.2, ((List.getD (List.take ((Int.toNat (if (120 : Int) < (((List.length x.2.1) : Nat) : Int) then (120 : Int) else (((List.length x.2.1) : Nat) : Int))) - (Int.toNat (0 : Int))) (List.drop (Int.toNat (0 : Int)) x.2.1)) (Int.toNat x4.2.2.2.2.2.2.2.2.1) ((0 : Int), ((0 : Int), (([] : List Int), false)))).2.1, ()))) fun (y6 : (((List (List Int)) × ((List Bool) × (Bool × (Bool × (Int × (Int × (List (Int × (List Int))))))))) × (Int × Unit))) =>
                                                      bif (!(decide (y5.2.1 = y6.2.1))) then
                                                        (some (Sum.inr (Sum.inr (false, (y6.1.1, (y6.1.2.1, (y6.1.2.2.1, (y6.1.2.2.2.1, (y6.1.2.2.2.2.1, (y6.1.2.2.2.2.2.1, y6.1.2.2.2.2.2.2))))))))))
                                                      else
                                                        (Option.bind (m14 (y5.1, ())) fun (y7 : (Bool × Unit)) =>
                                                        bif (!(bif y7.1 then (!y6.1.2.2.1) else (!(!y6.1.2.2.1)))) then
                                                          (some (Sum.inr (Sum.inr (false, (y6.1.1, (y6.1.2.1, (y6.1.2.2.1, (y6.1.2.2.2.1, (y6.1.2.2.2.2.1, (y6.1.2.2.2.2.2.1, y6.1.2.2.2.2.2.2))))))))))
                                                        else
                                                          (Option.bind (m21 (y5.1, ())) fun (y8 : (Int × Unit)) =>
                                                          bif (!(decide (y8.1 = y6.1.2.2.2.2.2.1))) then
                                                            (some (Sum.inr (Sum.inr (false, (y6.1.1, (y6.1.2.1, (y6.1.2.2.1, (y6.1.2.2.2.1, (y6.1.2.2.2.2.1, (y6.1.2.2.2.2.2.1, y6.1.2.2.2.2.2.2))))))))))
                                                          else
                                                            (Option.bind (m22 (y5.1, ())) fun (y9 : (Int × Unit)) =>
                                                            Option.bind (m13 (y6.1, ())) fun (y10 : (Int × Unit)) =>
                                                            bif (!(decide (y9.1 = y10.1))) then
                                                              (some (Sum.inr (Sum.inr (false, (y6.1.1, (y6.1.2.1, (y6.1.2.2.1, (y6.1.2.2.2.1, (y6.1.2.2.2.2.1, (y6.1.2.2.2.2.2.1, y6.1.2.2.2.2.2.2))))))))))
                                                            else
                                                              (some (Sum.inl ((), (y5.1.1, (y5.1.2.1, (y5.1.2.2.1, (y5.1.2.2.2.1, (y5.1.2.2.2.2.1, (y5.1.2.2.2.2.2.1, (y5.1.2.2.2.2.2.2, ((Go.IntKind.wrap .i64 (x4.2.2.2.2.2.2.2.2.1 + (1 : Int))), (y6.1.1, (y6.1.2.1, (y6.1.2.2.1, (y6.1.2.2.2.1, (y6.1.2.2.2.2.1, (y6.1.2.2.2.2.2.1, y6.1.2.2.2.2.2.2)))))))))))))))))))))
                                                    else
                                                      (bif (decide ((List.getD (List.take ((Int.toNat (if (120 : Int) < (((List.length x.2.1) : Nat) : Int) then (120 : Int) else (((List.length x.2.1) : Nat) : Int))) - (Int.toNat (0 : Int))) (List.drop (Int.toNat (0 : Int)) x.2.1)) (Int.toNat x4.2.2.2.2.2.2.2.2.1) ((0 : Int), ((0 : Int), (([] : List Int), false)))).1 = (6 : Int))) then
                                                        (Option.bind (m34 ((x4.2.1, (x4.2.2.1, (x4.2.2.2.1, (x4.2.2.2.2.1, (x4.2.2.2.2.2.1, (x4.2.2.2.2.2.2.1, x4.2.2.2.2.2.2.2.1)))))), ())) fun (y5 : (Bool × Unit)) =>
                                                        bif y5.1 then
                                                          (some (Sum.inr (Sum.inr (false, (x4.2.2.2.2.2.2.2.2.2.1, (x4.2.2.2.2.2.2.2.2.2.2.1, (x4.2.2.2.2.2.2.2.2.2.2.2.1, (x4.2.2.2.2.2.2.2.2.2.2.2.2.1, (x4.2.2.2.2.2.2.2.2.2.2.2.2.2.1, (x4.2.2.2.2.2.2.2.2.2.2.2.2.2.2.1, x4.2.2.2.2.2.2.2.2.2.2.2.2.2.2.2))))))))))
                                                        else
                                                          (Option.bind (m46 (x4.2.2.1, ())) fun (y6 : ((List Bool) × ((List Bool) × Unit))) =>
                                                          Option.bind (m47 (x4.2.2.2.2.2.2.2.1, ())) fun (y7 : ((List (Int × (List Int))) × ((List (Int × (List Int))) × Unit))) =>
                                                          Option.bind (loopM (X := (Int × ((List (List Int)) × ((List Bool) × (Bool × (Bool × (Int × (Int × (List (Int × (List Int))))))))))) (E := ((List (List Int)) × ((List Bool) × (Bool × (Bool × (Int × (Int × (List (Int × (List Int)))))))))) (fun (x8 : (Int × ((List (List Int)) × ((List Bool) × (Bool × (Bool × (Int × (Int × (List (Int × (List Int))))))))))) =>
                                                              bif (decide (x8.1 < (((List.length x4.2.1) : Nat) : Int))) then
                                                                (gd ((0 : Int) ≤ x8.1) (gd (x8.1 < (((List.length x4.2.1) : Nat) : Int)) (gd ((Int.toNat x8.1) < (List.length x4.2.1)) (Option.bind (m37 ((List.getD x4.2.1 (Int.toNat x8.1) ([] : List Int)), ())) fun (y9 : ((List Int) × Unit)) =>
                                                                      gd ((((List.length x8.2.1) + (List.length (y9.1 :: ([] : List (List Int))))) * 24) ≤ 140737488355328) (gd (((List.length x8.2.1) + (List.length (y9.1 :: ([] : List (List Int))))) ≤ 140737488355328) (some (Sum.inl ((Go.IntKind.wrap .i64 (x8.1 + (1 : Int))), ((x8.2.1 ++ (y9.1 :: ([] : List (List Int)))), (x8.2.2.1, (x8.2.2.2.1, (x8.2.2.2.2.1, (x8.2.2.2.2.2.1, (x8.2.2.2.2.2.2.1, x8.2.2.2.2.2.2.2))))))))))))))
                                                              else
                                                                (some (Sum.inr (x8.2.1, (x8.2.2.1, (x8.2.2.2.1, (x8.2.2.2.2.1, (x8.2.2.2.2.2.1, (x8.2.2.2.2.2.2.1, x8.2.2.2.2.2.2.2))))))))) ((0 : Int), (([] : List (List Int)), (y6.2.1, (x4.2.2.2.1, (x4.2.2.2.2.1, (x4.2.2.2.2.2.1, (x4.2.2.2.2.2.2.1, y7.2.1)))))))) fun (y8 : ((List (List Int)) × ((List Bool) × (Bool × (Bool × (Int × (Int × (List (Int × (List Int)))))))))) =>
                                                          Option.bind (m28 (((99 : Int) :: ([] : List Int)), ((256 : Int), ()))) fun (y9 : ((List Int) × Unit)) =>
                                                          Option.bind (m11 ((x4.2.1, (y6.1, (x4.2.2.2.1, (x4.2.2.2.2.1, (x4.2.2.2.2.2.1, (x4.2.2.2.2.2.2.1, y7.1)))))), ((0 : Int), (y9.1, ())))) fun (y10 : (((List (List Int)) × ((List Bool) × (Bool × (Bool × (Int × (Int × (List (Int × (List Int))))))))) × (Int × Unit))) =>
                                                          Option.bind (m14 (y8, ())) fun (y11 : (Bool × Unit)) =>
                                                          bif (!(bif y11.1 then (!x4.2.2.2.2.2.2.2.2.2.2.2.1) else (!(!x4.2.2.2.2.2.2.2.2.2.2.2.1)))) then
                                                            (some (Sum.inr (Sum.inr (false, (x4.2.2.2.2.2.2.2.2.2.1, (x4.2.2.2.2.2.2.2.2.2.2.1, (x4.2.2.2.2.2.2.2.2.2.2.2.1, (x4.2.2.2.2.2.2.2.2.2.2.2.2.1, (x4.2.2.2.2.2.2.2.2.2.2.2.2.2.1, (x4.2.2.2.2.2.2.2.2.2.2.2.2.2.2.1, x4.2.2.2.2.2.2.2.2.2.2.2.2.2.2.2))))))))))
                                                          else
                                                            (Option.bind (m21 (y8, ())) fun (y12 : (Int × Unit)) =>
                                                            bif (!(decide (y12.1 = x4.2.2.2.2.2.2.2.2.2.2.2.2.2.2.1))) then
                                                              (some (Sum.inr (Sum.inr (false, (x4.2.2.2.2.2.2.2.2.2.1, (x4.2.2.2.2.2.2.2.2.2.2.1, (x4.2.2.2.2.2.2.2.2.2.2.2.1, (x4.2.2.2.2.2.2.2.2.2.2.2.2.1, (x4.2.2.2.2.2.2.2.2.2.2.2.2.2.1, (x4.2.2.2.2.2.2.2.2.2.2.2.2.2.2.1, x4.2.2.2.2.2.2.2.2.2.2.2.2.2.2.2))))))))))
                                                            else
                                                              (Option.bind (m22 (y8, ())) fun (y13 : (Int × Unit)) =>
                                                              Option.bind (m13 (x4.2.2.2.2.2.2.2.2.2, ())) fun (y14 : (Int × Unit)) =>
                                                              bif (!(decide (y13.1 = y14.1))) then
                                                                (some (Sum.inr (Sum.inr (false, (x4.2.2.2.2.2.2.2.2.2.1, (x4.2.2.2.2.2.2.2.2.2.2.1, (x4.2.2.2.2.2.2.2.2.2.2.2.1, (x4.2.2.2.2.2.2.2.2.2.2.2.2.1, (x4.2.2.2.2.2.2.2.2.2.2.2.2.2.1, (x4.2.2.2.2.2.2.2.2.2.2.2.2.2.2.1, x4.2.2.2.2.2.2.2.2.2.2.2.2.2.2.2))))))))))
                                                              else
                                                                (some (Sum.inl ((), (y8.1, (y8.2.1, (y8.2.2.1, (y8.2.2.2.1, (y8.2.2.2.2.1, (y8.2.2.2.2.2.1, (y8.2.2.2.2.2.2, ((Go.IntKind.wrap .i64 (x4.2.2.2.2.2.2.2.2.1 + (1 : Int))), (x4.2.2.2.2.2.2.2.2.2.1, (x4.2.2.2.2.2.2.2.2.2.2.1, (x4.2.2.2.2.2.2.2.2.2.2.2.1, (x4.2.2.2.2.2.2.2.2.2.2.2.2.1, (x4.2.2.2.2.2.2.2.2.2.2.2.2.2.1, (x4.2.2.2.2.2.2.2.2.2.2.2.2.2.2.1, x4.2.2.2.2.2.2.2.2.2.2.2.2.2.2.2)))))))))))))))))))))
                                                      else
                                                        (Option.bind (m14 ((x4.2.1, (x4.2.2.1, (x4.2.2.2.1, (x4.2.2.2.2.1, (x4.2.2.2.2.2.1, (x4.2.2.2.2.2.2.1, x4.2.2.2.2.2.2.2.1)))))), ())) fun (y5 : (Bool × Unit)) =>
                                                        bif (!(bif y5.1 then (!x4.2.2.2.2.2.2.2.2.2.2.2.1) else (!(!x4.2.2.2.2.2.2.2.2.2.2.2.1)))) then
                                                          (some (Sum.inr (Sum.inr (false, (x4.2.2.2.2.2.2.2.2.2.1, (x4.2.2.2.2.2.2.2.2.2.2.1, (x4.2.2.2.2.2.2.2.2.2.2.2.1, (x4.2.2.2.2.2.2.2.2.2.2.2.2.1, (x4.2.2.2.2.2.2.2.2.2.2.2.2.2.1, (x4.2.2.2.2.2.2.2.2.2.2.2.2.2.2.1, x4.2.2.2.2.2.2.2.2.2.2.2.2.2.2.2))))))))))
                                                        else
                                                          (Option.bind (m21 ((x4.2.1, (x4.2.2.1, (x4.2.2.2.1, (x4.2.2.2.2.1, (x4.2.2.2.2.2.1, (x4.2.2.2.2.2.2.1, x4.2.2.2.2.2.2.2.1)))))), ())) fun (y6 : (Int × Unit)) =>
                                                          bif (!(decide (y6.1 = x4.2.2.2.2.2.2.2.2.2.2.2.2.2.2.1))) then
                                                            (some (Sum.inr (Sum.inr (false, (x4.2.2.2.2.2.2.2.2.2.1, (x4.2.2.2.2.2.2.2.2.2.2.1, (x4.2.2.2.2.2.2.2.2.2.2.2.1, (x4.2.2.2.2.2.2.2.2.2.2.2.2.1, (x4.2.2.2.2.2.2.2.2.2.2.2.2.2.1, (x4.2.2.2.2.2.2.2.2.2.2.2.2.2.2.1, x4.2.2.2.2.2.2.2.2.2.2.2.2.2.2.2))))))))))
                                                          else
                                                            (Option.bind (m22 ((x4.2.1, (x4.2.2.1, (x4.2.2.2.1, (x4.2.2.2.2.1, (x4.2.2.2.2.2.1, (x4.2.2.2.2.2.2.1, x4.2.2.2.2.2.2.2.1)))))), ())) fun (y7 : (Int × Unit)) =>
                                                            Option.bind (m13 (x4.2.2.2.2.2.2.2.2.2, ())) fun (y8 : (Int × Unit)) =>
                                                            bif (!(decide (y7.1 = y8.1))) then
                                                              (some (Sum.inr (Sum.inr (false, (x4.2.2.2.2.2.2.2.2.2.1, (x4.2.2.2.2.2.2.2.2.2.2.1, (x4.2.2.2.2.2.2.2.2.2.2.2.1, (x4.2.2.2.2.2.2.2.2.2.2.2.2.1, (x4.2.2.2.2.2.2.2.2.2.2.2.2.2.1, (x4.2.2.2.2.2.2.2.2.2.2.2.2.2.2.1, x4.2.2.2.2.2.2.2.2.2.2.2.2.2.2.2))))))))))
                                                            else
                                                              (some (Sum.inl ((), (x4.2.1, (x4.2.2.1, (x4.2.2.2.1, (x4.2.2.2.2.1, (x4.2.2.2.2.2.1, (x4.2.2.2.2.2.2.1, (x4.2.2.2.2.2.2.2.1, ((Go.IntKind.wrap .i64 (x4.2.2.2.2.2.2.2.2.1 + (1 : Int))), (x4.2.2.2.2.2.2.2.2.2.1, (x4.2.2.2.2.2.2.2.2.2.2.1, (x4.2.2.2.2.2.2.2.2.2.2.2.1, (x4.2.2.2.2.2.2.2.2.2.2.2.2.1, (x4.2.2.2.2.2.2.2.2.2.2.2.2.2.1, (x4.2.2.2.2.2.2.2.2.2.2.2.2.2.2.1, x4.2.2.2.2.2.2.2.2.2.2.2.2.2.2.2)))))))))))))))))))))))))))))
                                    else
                                      (some (Sum.inr (Sum.inl ((), (x4.2.1, (x4.2.2.1, (x4.2.2.2.1, (x4.2.2.2.2.1, (x4.2.2.2.2.2.1, (x4.2.2.2.2.2.2.1, (x4.2.2.2.2.2.2.2.1, (x4.2.2.2.2.2.2.2.2.2.1, (x4.2.2.2.2.2.2.2.2.2.2.1, (x4.2.2.2.2.2.2.2.2.2.2.2.1, (x4.2.2.2.2.2.2.2.2.2.2.2.2.1, (x4.2.2.2.2.2.2.2.2.2.2.2.2.2.1, (x4.2.2.2.2.2.2.2.2.2.2.2.2.2.2.1, x4.2.2.2.2.2.2.2.2.2.2.2.2.2.2.2)))))))))))))))))) ((), (y2.1, (y2.2.1, (y2.2.2.1, (y2.2.2.2.1, (y2.2.2.2.2.1, (y2.2.2.2.2.2.1, (y2.2.2.2.2.2.2, ((0 : Int), (y3.1, (y3.2.1, (y3.2.2.1, (y3.2.2.2.1, (y3.2.2.2.2.1, (y3.2.2.2.2.2.1, y3.2.2.2.2.2.2)))))))))))))))) fun (y4 : ((Unit × ((List (List Int)) × ((List Bool) × (Bool × (Bool × (Int × (Int × ((List (Int × (List Int))) × ((List (List Int)) × ((List Bool) × (Bool × (Bool × (Int × (Int × (List (Int × (List Int))))))))))))))))) ⊕ (Bool × ((List (List Int)) × ((List Bool) × (Bool × (Bool × (Int × (Int × (List (Int × (List Int)))))))))))) =>
                                Sum.elim (fun y5 =>
                                  Option.bind (m22 ((y5.2.1, (y5.2.2.1, (y5.2.2.2.1, (y5.2.2.2.2.1, (y5.2.2.2.2.2.1, (y5.2.2.2.2.2.2.1, y5.2.2.2.2.2.2.2.1)))))), ())) fun (y6 : (Int × Unit)) =>
                                  bif (decide (y6.1 = (0 : Int))) then
                                    (Option.bind (m18 (y5.2.2.2.2.2.2.2.2, ())) fun (y7 : ((List (List Int)) × (Int × Unit))) =>
                                    bif (decide ((2 : Int) = y7.2.1)) then
                                      (Option.bind (m19 (([] : List (List Int)), (y7.1, ()))) fun (y8 : (Bool × Unit)) =>
                                      bif y8.1 then
                                        (gd ((0 : Int) ≤ (if (Go.IntKind.wrap .i64 ((((List.length y5.2.2.2.2.2.2.2.2.2.2.2.2.2.2) : Nat) : Int) - (1024 : Int))) > (0 : Int) then (Go.IntKind.wrap .i64 ((((List.length y5.2.2.2.2.2.2.2.2.2.2.2.2.2.2) : Nat) : Int) - (1024 : Int))) else (0 : Int))) (gd ((if (Go.IntKind.wrap .i64 ((((List.length y5.2.2.2.2.2.2.2.2.2.2.2.2.2.2) : Nat) : Int) - (1024 : Int))) > (0 : Int) then (Go.IntKind.wrap .i64 ((((List.length y5.2.2.2.2.2.2.2.2.2.2.2.2.2.2) : Nat) : Int) - (1024 : Int))) else (0 : Int)) ≤ (((List.length y5.2.2.2.2.2.2.2.2.2.2.2.2.2.2) : Nat) : Int)) (gd ((((List.length y5.2.2.2.2.2.2.2.2.2.2.2.2.2.2) : Nat) : Int) ≤ (((List.length y5.2.2.2.2.2.2.2.2.2.2.2.2.2.2) : Nat) : Int)) (Option.bind (m34 ((y5.2.1, (y5.2.2.1, (y5.2.2.2.1, (y5.2.2.2.2.1, (y5.2.2.2.2.2.1, (y5.2.2.2.2.2.2.1, y5.2.2.2.2.2.2.2.1)))))), ())) fun (y9 : (Bool × Unit)) =>
                                              bif y9.1 then
                                                (some ((decide ((0 : Int) = ((((Int.toNat (((List.length y5.2.2.2.2.2.2.2.2.2.2.2.2.2.2) : Nat) : Int)) - (Int.toNat (if (Go.IntKind.wrap .i64 ((((List.length y5.2.2.2.2.2.2.2.2.2.2.2.2.2.2) : Nat) : Int) - (1024 : Int))) > (0 : Int) then (Go.IntKind.wrap .i64 ((((List.length y5.2.2.2.2.2.2.2.2.2.2.2.2.2.2) : Nat) : Int) - (1024 : Int))) else (0 : Int)))) : Nat) : Int))), ()))
                                              else
                                                (Option.bind (loopM (X := (Int × (Bool × Int))) (E := ((Bool × Int) ⊕ (Bool × (Int × Unit)))) (fun (x10 : (Int × (Bool × Int))) =>
                                                    bif (decide (x10.1 < (((List.length y5.2.2.2.2.2.2.2.1) : Nat) : Int))) then
                                                      (gd ((0 : Int) ≤ x10.1) (gd (x10.1 < (((List.length y5.2.2.2.2.2.2.2.1) : Nat) : Int)) (gd ((Int.toNat x10.1) < (List.length y5.2.2.2.2.2.2.2.1)) (Option.bind (m37 ((List.getD y5.2.2.2.2.2.2.2.1 (Int.toNat x10.1) ((0 : Int), ([] : List Int))).2, ())) fun (y11 : ((List Int) × Unit)) =>
                                                            bif (decide (x10.2.2 ≥ ((((Int.toNat (((List.length y5.2.2.2.2.2.2.2.2.2.2.2.2.2.2) : Nat) : Int)) - (Int.toNat (if (Go.IntKind.wrap .i64 ((((List.length y5.2.2.2.2.2.2.2.2.2.2.2.2.2.2) : Nat) : Int) - (1024 : Int))) > (0 : Int) then (Go.IntKind.wrap .i64 ((((List.length y5.2.2.2.2.2.2.2.2.2.2.2.2.2.2) : Nat) : Int) - (1024 : Int))) else (0 : Int)))) : Nat) : Int))) then
                                                              (some (Sum.inr (Sum.inr (false, (x10.2.2, ())))))
                                                            else
                                                              (gd ((0 : Int) ≤ x10.2.2) (gd (x10.2.2 < ((((Int.toNat (((List.length y5.2.2.2.2.2.2.2.2.2.2.2.2.2.2) : Nat) : Int)) - (Int.toNat (if (Go.IntKind.wrap .i64 ((((List.length y5.2.2.2.2.2.2.2.2.2.2.2.2.2.2) : Nat) : Int) - (1024 : Int))) > (0 : Int) then (Go.IntKind.wrap .i64 ((((List.length y5.2.2.2.2.2.2.2.2.2.2.2.2.2.2) : Nat) : Int) - (1024 : Int))) else (0 : Int)))) : Nat) : Int)) (gd (((Int.toNat (if (Go.IntKind.wrap .i64 ((((List.length y5.2.2.2.2.2.2.2.2.2.2.2.2.2.2) : Nat) : Int) - (1024 : Int))) > (0 : Int) then (Go.IntKind.wrap .i64 ((((List.length y5.2.2.2.2.2.2.2.2.2.2.2.2.2.2) : Nat) : Int) - (1024 : Int))) else (0 : Int))) + (Int.toNat x10.2.2)) < (List.length y5.2.2.2.2.2.2.2.2.2.2.2.2.2.2)) (bif (!(decide ((List.getD y5.2.2.2.2.2.2.2.2.2.2.2.2.2.2 ((Int.toNat (if (Go.IntKind.wrap .i64 ((((List.length y5.2.2.2.2.2.2.2.2.2.2.2.2.2.2) : Nat) : Int) - (1024 : Int))) > (0 : Int) then (Go.IntKind.wrap .i64 ((((List.length y5.2.2.2.2.2.2.2.2.2.2.2.2.2.2) : Nat) : Int) - (1024 : Int))) else (0 : Int))) + (Int.toNat x10.2.2)) ((0 : Int), ([] : List Int))).1 = (List.getD y5.2.2.2.2.2.2.2.1 (Int.toNat x10.1) ((0 : Int), ([] : List Int))).1))) then
                                                                      (some (Sum.inr (Sum.inr (false, (x10.2.2, ())))))
                                                                    else
                                                                      (gd ((0 : Int) ≤ x10.2.2) (gd (x10.2.2 < ((((Int.toNat (((List.length y5.2.2.2.2.2.2.2.2.2.2.2.2.2.2) : Nat) : Int)) - (Int.toNat (if (Go.IntKind.wrap .i64 ((((List.length y5.2.2.2.2.2.2.2.2.2.2.2.2.2.2) : Nat) : Int) - (1024 : Int))) > (0 : Int) then (Go.IntKind.wrap .i64 ((((List.length y5.2.2.2.2.2.2.2.2.2.2.2.2.2.2) : Nat) : Int) - (1024 : Int))) else (0 : Int)))) : Nat) : Int)) (gd (((Int.toNat (if (Go.IntKind.wrap .i64 ((((List.length y5.2.2.2.2.2.2.2.2.2.2.2.2.2.2) : Nat) : Int) - (1024 : Int))) > (0 : Int) then (Go.IntKind.wrap .i64 ((((List.length y5.2.2.2.2.2.2.2.2.2.2.2.2.2.2) : Nat) : Int) - (1024 : Int))) else (0 : Int))) + (Int.toNat x10.2.2)) < (List.length y5.2.2.2.2.2.2.2.2.2.2.2.2.2.2)) (Option.bind (m30 ((List.getD y5.2.2.2.2.2.2.2.2.2.2.2.2.2.2 ((Int.toNat (if (Go.IntKind.wrap .i64 ((((List.length y5.2.2.2.2.2.2.2.2.2.2.2.2.2.2) : Nat) : Int) - (1024 : Int))) > (0 : Int) then (Go.IntKind.wrap .i64 ((((List.length y5.2.2.2.2.2.2.2.2.2.2.2.2.2.2) : Nat) : Int) - (1024 : Int))) else (0 : Int))) + (Int.toNat x10.2.2)) ((0 : Int), ([] : List Int))).2, (y11.1, ()))) fun (y12 : (Bool × Unit)) =>
                                                                            bif (!y12.1) then
                                                                              (some (Sum.inr (Sum.inr (false, (x10.2.2, ())))))
                                                                            else
                                                                              (some (Sum.inl ((Go.IntKind.wrap .i64 (x10.1 + (1 : Int))), (x10.2.1, (Go.IntKind.wrap .i64 (x10.2.2 + (1 : Int)))))))))))))))))))
                                                    else
                                                      (some (Sum.inr (Sum.inl (x10.2.1, x10.2.2))))) ((0 : Int), (false, (0 : Int)))) fun (y10 : ((Bool × Int) ⊕ (Bool × (Int × Unit)))) =>
                                                Sum.elim (fun y11 =>
                                                  some ((decide (y11.2 = ((((Int.toNat (((List.length y5.2.2.2.2.2.2.2.2.2.2.2.2.2.2) : Nat) : Int)) - (Int.toNat (if (Go.IntKind.wrap .i64 ((((List.length y5.2.2.2.2.2.2.2.2.2.2.2.2.2.2) : Nat) : Int) - (1024 : Int))) > (0 : Int) then (Go.IntKind.wrap .i64 ((((List.length y5.2.2.2.2.2.2.2.2.2.2.2.2.2.2) : Nat) : Int) - (1024 : Int))) else (0 : Int)))) : Nat) : Int))), ())) (fun y11 =>
                                                  some (y11.1, ())) y10)))))
                                      else
                                        (some (false, ())))
                                    else
                                      (some (false, ())))
                                  else
                                    (Option.bind (loopM (X := ((List (List Int)) × Int)) (E := ((List (List Int)) ⊕ ((List (List Int)) × Int))) (fun (x7 : ((List (List Int)) × Int)) =>
                                        bif (decide (x7.2 < y6.1)) then
                                          (Option.bind (m29 ((y5.2.1, (y5.2.2.1, (y5.2.2.2.1, (y5.2.2.2.2.1, (y5.2.2.2.2.2.1, (y5.2.2.2.2.2.2.1, y5.2.2.2.2.2.2.2.1)))))), (x7.2, ()))) fun (y8 : ((List Int) × (Int × Unit))) =>
                                          bif (!(decide (y8.2.1 = (0 : Int)))) then
                                            (some (Sum.inr (Sum.inr (([] : List (List Int)), y8.2.1))))
                                          else
                                            (gd ((((List.length x7.1) + (List.length (y8.1 :: ([] : List (List Int))))) * 24) ≤ 140737488355328) (gd (((List.length x7.1) + (List.length (y8.1 :: ([] : List (List Int))))) ≤ 140737488355328) (some (Sum.inl ((x7.1 ++ (y8.1 :: ([] : List (List Int)))), (Go.IntKind.wrap .i64 (x7.2 + (1 : Int)))))))))
                                        else
                                          (some (Sum.inr (Sum.inl x7.1)))) (([] : List (List Int)), (0 : Int))) fun (y7 : ((List (List Int)) ⊕ ((List (List Int)) × Int))) =>
                                    Sum.elim (fun y8 =>
                                      Option.bind (m18 (y5.2.2.2.2.2.2.2.2, ())) fun (y9 : ((List (List Int)) × (Int × Unit))) =>
                                      bif (decide ((0 : Int) = y9.2.1)) then
                                        (Option.bind (m19 (y8, (y9.1, ()))) fun (y10 : (Bool × Unit)) =>
                                        bif y10.1 then
                                          (gd ((0 : Int) ≤ (if (Go.IntKind.wrap .i64 ((((List.length y5.2.2.2.2.2.2.2.2.2.2.2.2.2.2) : Nat) : Int) - (1024 : Int))) > (0 : Int) then (Go.IntKind.wrap .i64 ((((List.length y5.2.2.2.2.2.2.2.2.2.2.2.2.2.2) : Nat) : Int) - (1024 : Int))) else (0 : Int))) (gd ((if (Go.IntKind.wrap .i64 ((((List.length y5.2.2.2.2.2.2.2.2.2.2.2.2.2.2) : Nat) : Int) - (1024 : Int))) > (0 : Int) then (Go.IntKind.wrap .i64 ((((List.length y5.2.2.2.2.2.2.2.2.2.2.2.2.2.2) : Nat) : Int) - (1024 : Int))) else (0 : Int)) ≤ (((List.length y5.2.2.2.2.2.2.2.2.2.2.2.2.2.2) : Nat) : Int)) (gd ((((List.length y5.2.2.2.2.2.2.2.2.2.2.2.2.2.2) : Nat) : Int) ≤ (((List.length y5.2.2.2.2.2.2.2.2.2.2.2.2.2.2) : Nat) : Int)) (Option.bind (m34 ((y5.2.1, (y5.2.2.1, (y5.2.2.2.1, (y5.2.2.2.2.1, (y5.2.2.2.2.2.1, (y5.2.2.2.2.2.2.1, y5.2.2.2.2.2.2.2.1)))))), ())) fun (y11 : (Bool × Unit)) =>
                                                bif y11.1 then
                                                  (some ((decide ((0 : Int) = ((((Int.toNat (((List.length y5.2.2.2.2.2.2.2.2.2.2.2.2.2.2) : Nat) : Int)) - (Int.toNat (if (Go.IntKind.wrap .i64 ((((List.length y5.2.2.2.2.2.2.2.2.2.2.2.2.2.2) : Nat) : Int) - (1024 : Int))) > (0 : Int) then (Go.IntKind.wrap .i64 ((((List.length y5.2.2.2.2.2.2.2.2.2.2.2.2.2.2) : Nat) : Int) - (1024 : Int))) else (0 : Int)))) : Nat) : Int))), ()))
                                                else
                                                  (Option.bind (loopM (X := (Int × (Bool × Int))) (E := ((Bool × Int) ⊕ (Bool × (Int × Unit)))) (fun (x12 : (Int × (Bool × Int))) =>
                                                      bif (decide (x12.1 < (((List.length y5.2.2.2.2.2.2.2.1) : Nat) : Int))) then
                                                        (gd ((0 : Int) ≤ x12.1) (gd (x12.1 < (((List.length y5.2.2.2.2.2.2.2.1) : Nat) : Int)) (gd ((Int.toNat x12.1) < (List.length y5.2.2.2.2.2.2.2.1)) (Option.bind (m37 ((List.getD y5.2.2.2.2.2.2.2.1 (Int.toNat x12.1) ((0 : Int), ([] : List Int))).2, ())) fun (y13 : ((List Int) × Unit)) =>
                                                              bif (decide (x12.2.2 ≥ ((((Int.toNat (((List.length y5.2.2.2.2.2.2.2.2.2.2.2.2.2.2) : Nat) : Int)) - (Int.toNat (if (Go.IntKind.wrap .i64 ((((List.length y5.2.2.2.2.2.2.2.2.2.2.2.2.2.2) : Nat) : Int) - (1024 : Int))) > (0 : Int) then (Go.IntKind.wrap .i64 ((((List.length y5.2.2.2.2.2.2.2.2.2.2.2.2.2.2) : Nat) : Int) - (1024 : Int))) else (0 : Int)))) : Nat) : Int))) then
                                                                (some (Sum.inr (Sum.inr (false, (x12.2.2, ())))))
                                                              else
                                                                (gd ((0 : Int) ≤ x12.2.2) (gd (x12.2.2 < ((((Int.toNat (((List.length y5.2.2.2.2.2.2.2.2.2.2.2.2.2.2) : Nat) : Int)) - (Int.toNat (if (Go.IntKind.wrap .i64 ((((List.length y5.2.2.2.2.2.2.2.2.2.2.2.2.2.2) : Nat) : Int) - (1024 : Int))) > (0 : Int) then (Go.IntKind.wrap .i64 ((((List.length y5.2.2.2.2.2.2.2.2.2.2.2.2.2.2) : Nat) : Int) - (1024 : Int))) else (0 : Int)))) : Nat) : Int)) (gd (((Int.toNat (if (Go.IntKind.wrap .i64 ((((List.length y5.2.2.2.2.2.2.2.2.2.2.2.2.2.2) : Nat) : Int) - (1024 : Int))) > (0 : Int) then (Go.IntKind.wrap .i64 ((((List.length y5.2.2.2.2.2.2.2.2.2.2.2.2.2.2) : Nat) : Int) - (1024 : Int))) else (0 : Int))) + (Int.toNat x12.2.2)) < (List.length y5.2.2.2.2.2.2.2.2.2.2.2.2.2.2)) (bif (!(decide ((List.getD y5.2.2.2.2.2.2.2.2.2.2.2.2.2.2 ((Int.toNat (if (Go.IntKind.wrap .i64 ((((List.length y5.2.2.2.2.2.2.2.2.2.2.2.2.2.2) : Nat) : Int) - (1024 : Int))) > (0 : Int) then (Go.IntKind.wrap .i64 ((((List.length y5.2.2.2.2.2.2.2.2.2.2.2.2.2.2) : Nat) : Int) - (1024 : Int))) else (0 : Int))) + (Int.toNat x12.2.2)) ((0 : Int), ([] : List Int))).1 = (List.getD y5.2.2.2.2.2.2.2.1 (Int.toNat x12.1) ((0 : Int), ([] : List Int))).1))) then
                                                                        (some (Sum.inr (Sum.inr (false, (x12.2.2, ())))))
                                                                      else
                                                                        (gd ((0 : Int) ≤ x12.2.2) (gd (x12.2.2 < ((((Int.toNat (((List.length y5.2.2.2.2.2.2.2.2.2.2.2.2.2.2) : Nat) : Int)) - (Int.toNat (if (Go.IntKind.wrap .i64 ((((List.length y5.2.2.2.2.2.2.2.2.2.2.2.2.2.2) : Nat) : Int) - (1024 : Int))) > (0 : Int) then (Go.IntKind.wrap .i64 ((((List.length y5.2.2.2.2.2.2.2.2.2.2.2.2.2.2) : Nat) : Int) - (1024 : Int))) else (0 : Int)))) : Nat) : Int)) (gd (((Int.toNat (if (Go.IntKind.wrap .i64 ((((List.length y5.2.2.2.2.2.2.2.2.2.2.2.2.2.2) : Nat) : Int) - (1024 : Int))) > (0 : Int) then (Go.IntKind.wrap .i64 ((((List.length y5.2.2.2.2.2.2.2.2.2.2.2.2.2.2) : Nat) : Int) - (1024 : Int))) else (0 : Int))) + (Int.toNat x12.2.2)) < (List.length y5.2.2.2.2.2.2.2.2.2.2.2.2.2.2)) (Option.bind (m30 ((List.getD y5.2.2.2.2.2.2.2.2.2.2.2.2.2.2 ((Int.toNat (if (Go.IntKind.wrap .i64 ((((List.length y5.2.2.2.2.2.2.2.2.2.2.2.2.2.2) : Nat) : Int) - (1024 : Int))) > (0 : Int) then (Go.IntKind.wrap .i64 ((((List.length y5.2.2.2.2.2.2.2.2.2.2.2.2.2.2) : Nat) : Int) - (1024 : Int))) else (0 : Int))) + (Int.toNat x12.2.2)) ((0 : Int), ([] : List Int))).2, (y13.1, ()))) fun (y14 : (Bool × Unit)) =>
                                                                              bif (!y14.1) then
                                                                                (some (Sum.inr (Sum.inr (false, (x12.2.2, ())))))
                                                                              else
                                                                                (some (Sum.inl ((Go.IntKind.wrap .i64 (x12.1 + (1 : Int))), (x12.2.1, (Go.IntKind.wrap .i64 (x12.2.2 + (1 : Int)))))))))))))))))))
                                                      else
                                                        (some (Sum.inr (Sum.inl (x12.2.1, x12.2.2))))) ((0 : Int), (false, (0 : Int)))) fun (y12 : ((Bool × Int) ⊕ (Bool × (Int × Unit)))) =>
                                                  Sum.elim (fun y13 =>
                                                    some ((decide (y13.2 = ((((Int.toNat (((List.length y5.2.2.2.2.2.2.2.2.2.2.2.2.2.2) : Nat) : Int)) - (Int.toNat (if (Go.IntKind.wrap .i64 ((((List.length y5.2.2.2.2.2.2.2.2.2.2.2.2.2.2) : Nat) : Int) - (1024 : Int))) > (0 : Int) then (Go.IntKind.wrap .i64 ((((List.length y5.2.2.2.2.2.2.2.2.2.2.2.2.2.2) : Nat) : Int) - (1024 : Int))) else (0 : Int)))) : Nat) : Int))), ())) (fun y13 =>
                                                    some (y13.1, ())) y12)))))
                                        else
                                          (some (false, ())))
                                      else
                                        (some (false, ()))) (fun y8 =>
                                      Option.bind (m18 (y5.2.2.2.2.2.2.2.2, ())) fun (y9 : ((List (List Int)) × (Int × Unit))) =>
                                      bif (decide (y8.2 = y9.2.1)) then
                                        (Option.bind (m19 (y8.1, (y9.1, ()))) fun (y10 : (Bool × Unit)) =>
                                        bif y10.1 then
                                          (gd ((0 : Int) ≤ (if (Go.IntKind.wrap .i64 ((((List.length y5.2.2.2.2.2.2.2.2.2.2.2.2.2.2) : Nat) : Int) - (1024 : Int))) > (0 : Int) then (Go.IntKind.wrap .i64 ((((List.length y5.2.2.2.2.2.2.2.2.2.2.2.2.2.2) : Nat) : Int) - (1024 : Int))) else (0 : Int))) (gd ((if (Go.IntKind.wrap .i64 ((((List.length y5.2.2.2.2.2.2.2.2.2.2.2.2.2.2) : Nat) : Int) - (1024 : Int))) > (0 : Int) then (Go.IntKind.wrap .i64 ((((List.length y5.2.2.2.2.2.2.2.2.2.2.2.2.2.2) : Nat) : Int) - (1024 : Int))) else (0 : Int)) ≤ (((List.length y5.2.2.2.2.2.2.2.2.2.2.2.2.2.2) : Nat) : Int)) (gd ((((List.length y5.2.2.2.2.2.2.2.2.2.2.2.2.2.2) : Nat) : Int) ≤ (((List.length y5.2.2.2.2.2.2.2.2.2.2.2.2.2.2) : Nat) : Int)) (Option.bind (m34 ((y5.2.1, (y5.2.2.1, (y5.2.2.2.1, (y5.2.2.2.2.1, (y5.2.2.2.2.2.1, (y5.2.2.2.2.2.2.1, y5.2.2.2.2.2.2.2.1)))))), ())) fun (y11 : (Bool × Unit)) =>
                                                bif y11.1 then
                                                  (some ((decide ((0 : Int) = ((((Int.toNat (((List.length y5.2.2.2.2.2.2.2.2.2.2.2.2.2.2) : Nat) : Int)) - (Int.toNat (if (Go.IntKind.wrap .i64 ((((List.length y5.2.2.2.2.2.2.2.2.2.2.2.2.2.2) : Nat) : Int) - (1024 : Int))) > (0 : Int) then (Go.IntKind.wrap .i64 ((((List.length y5.2.2.2.2.2.2.2.2.2.2.2.2.2.2) : Nat) : Int) - (1024 : Int))) else (0 : Int)))) : Nat) : Int))), ()))
                                                else
                                                  (Option.bind (loopM (X := (Int × (Bool × Int))) (E := ((Bool × Int) ⊕ (Bool × (Int × Unit)))) (fun (x12 : (Int × (Bool × Int))) =>
                                                      bif (decide (x12.1 < (((List.length y5.2.2.2.2.2.2.2.1) : Nat) : Int))) then
                                                        (gd ((0 : Int) ≤ x12.1) (gd (x12.1 < (((List.length y5.2.2.2.2.2.2.2.1) : Nat) : Int)) (gd ((Int.toNat x12.1) < (List.length y5.2.2.2.2.2.2.2.1)) (Option.bind (m37 ((List.getD y5.2.2.2.2.2.2.2.1 (Int.toNat x12.1) ((0 : Int), ([] : List Int))).2, ())) fun (y13 : ((List Int) × Unit)) =>
                                                              bif (decide (x12.2.2 ≥ ((((Int.toNat (((List.length y5.2.2.2.2.2.2.2.2.2.2.2.2.2.2) : Nat) : Int)) - (Int.toNat (if (Go.IntKind.wrap .i64 ((((List.length y5.2.2.2.2.2.2.2.2.2.2.2.2.2.2) : Nat) : Int) - (1024 : Int))) > (0 : Int) then (Go.IntKind.wrap .i64 ((((List.length y5.2.2.2.2.2.2.2.2.2.2.2.2.2.2) : Nat) : Int) - (1024 : Int))) else (0 : Int)))) : Nat) : Int))) then
                                                                (some (Sum.inr (Sum.inr (false, (x12.2.2, ())))))
                                                              else
                                                                (gd ((0 : Int) ≤ x12.2.2) (gd (x12.2.2 < ((((Int.toNat (((List.length y5.2.2.2.2.2.2.2.2.2.2.2.2.2.2) : Nat) : Int)) - (Int.toNat (if (Go.IntKind.wrap .i64 ((((List.length y5.2.2.2.2.2.2.2.2.2.2.2.2.2.2) : Nat) : Int) - (1024 : Int))) > (0 : Int) then (Go.IntKind.wrap .i64 ((((List.length y5.2.2.2.2.2.2.2.2.2.2.2.2.2.2) : Nat) : Int) - (1024 : Int))) else (0 : Int)))) : Nat) : Int)) (gd (((Int.toNat (if (Go.IntKind.wrap .i64 ((((List.length y5.2.2.2.2.2.2.2.2.2.2.2.2.2.2) : Nat) : Int) - (1024 : Int))) > (0 : Int) then (Go.IntKind.wrap .i64 ((((List.length y5.2.2.2.2.2.2.2.2.2.2.2.2.2.2) : Nat) : Int) - (1024 : Int))) else (0 : Int))) + (Int.toNat x12.2.2)) < (List.length y5.2.2.2.2.2.2.2.2.2.2.2.2.2.2)) (bif (!(decide ((List.getD y5.2.2.2.2.2.2.2.2.2.2.2.2.2.2 ((Int.toNat (if (Go.IntKind.wrap .i64 ((((List.length y5.2.2.2.2.2.2.2.2.2.2.2.2.2.2) : Nat) : Int) - (1024 : Int))) > (0 : Int) then (Go.IntKind.wrap .i64 ((((List.length y5.2.2.2.2.2.2.2.2.2.2.2.2.2.2) : Nat) : Int) - (1024 : Int))) else (0 : Int))) + (Int.toNat x12.2.2)) ((0 : Int), ([] : List Int))).1 = (List.getD y5.2.2.2.2.2.2.2.1 (Int.toNat x12.1) ((0 : Int), ([] : List Int))).1))) then
                                                                        (some (Sum.inr (Sum.inr (false, (x12.2.2, ())))))
                                                                      else
                                                                        (gd ((0 : Int) ≤ x12.2.2) (gd (x12.2.2 < ((((Int.toNat (((List.length y5.2.2.2.2.2.2.2.2.2.2.2.2.2.2) : Nat) : Int)) - (Int.toNat (if (Go.IntKind.wrap .i64 ((((List.length y5.2.2.2.2.2.2.2.2.2.2.2.2.2.2) : Nat) : Int) - (1024 : Int))) > (0 : Int) then (Go.IntKind.wrap .i64 ((((List.length y5.2.2.2.2.2.2.2.2.2.2.2.2.2.2) : Nat) : Int) - (1024 : Int))) else (0 : Int)))) : Nat) : Int)) (gd (((Int.toNat (if (Go.IntKind.wrap .i64 ((((List.length y5.2.2.2.2.2.2.2.2.2.2.2.2.2.2) : Nat) : Int) - (1024 : Int))) > (0 : Int) then (Go.IntKind.wrap .i64 ((((List.length y5.2.2.2.2.2.2.2.2.2.2.2.2.2.2) : Nat) : Int) - (1024 : Int))) else (0 : Int))) + (Int.toNat x12.2.2)) < (List.length y5.2.2.2.2.2.2.2.2.2.2.2.2.2.2)) (Option.bind (m30 ((List.getD y5.2.2.2.2.2.2.2.2.2.2.2.2.2.2 ((Int.toNat (if (Go.IntKind.wrap .i64 ((((List.length y5.2.2.2.2.2.2.2.2.2.2.2.2.2.2) : Nat) : Int) - (1024 : Int))) > (0 : Int) then (Go.IntKind.wrap .i64 ((((List.length y5.2.2.2.2.2.2.2.2.2.2.2.2.2.2) : Nat) : Int) - (1024 : Int))) else (0 : Int))) + (Int.toNat x12.2.2)) ((0 : Int), ([] : List Int))).2, (y13.1, ()))) fun (y14 : (Bool × Unit)) =>
                                                                              bif (!y14.1) then
                                                                                (some (Sum.inr (Sum.inr (false, (x12.2.2, ())))))
                                                                              else
                                                                                (some (Sum.inl ((Go.IntKind.wrap .i64 (x12.1 + (1 : Int))), (x12.2.1, (Go.IntKind.wrap .i64 (x12.2.2 + (1 : Int)))))))))))))))))))
                                                      else
                                                        (some (Sum.inr (Sum.inl (x12.2.1, x12.2.2))))) ((0 : Int), (false, (0 : Int)))) fun (y12 : ((Bool × Int) ⊕ (Bool × (Int × Unit)))) =>
                                                  Sum.elim (fun y13 =>
                                                    some ((decide (y13.2 = ((((Int.toNat (((List.length y5.2.2.2.2.2.2.2.2.2.2.2.2.2.2) : Nat) : Int)) - (Int.toNat (if (Go.IntKind.wrap .i64 ((((List.length y5.2.2.2.2.2.2.2.2.2.2.2.2.2.2) : Nat) : Int) - (1024 : Int))) > (0 : Int) then (Go.IntKind.wrap .i64 ((((List.length y5.2.2.2.2.2.2.2.2.2.2.2.2.2.2) : Nat) : Int) - (1024 : Int))) else (0 : Int)))) : Nat) : Int))), ())) (fun y13 =>
                                                    some (y13.1, ())) y12)))))
                                        else
                                          (some (false, ())))
                                      else
                                        (some (false, ()))) y7)) (fun y5 =>
                                  some (y5.1, ())) y4)))))))))))))))

noncomputable def i4_8 : ID := aInl Try.prog (envOf [] [] [23, 24] []) ⟨[(3000, ⟨[.slot 16 (.d false (.int .i64) true), .cell 1 0 (.v 32 (.sl (.int .u8)) false), .cell 1 1 (.v 4 .bool false), .cell 1 2 (.d false .bool true), .cell 1 3 (.d false .bool true), .cell 1 4 (.d false (.int .i64) true), .cell 1 5 (.d false (.int .i64) true), .cell 1 6 (.v 75 (.pair (.int .i64) (.sl (.int .u8))) false)], [0], [(some 0, [.cell 1 0 (.v 32 (.sl (.int .u8)) false), .cell 1 1 (.v 4 .bool false), .cell 1 2 (.d false .bool true), .cell 1 3 (.d false .bool true), .cell 1 4 (.d false (.int .i64) true), .cell 1 5 (.d false (.int .i64) true), .cell 1 6 (.v 75 (.pair (.int .i64) (.sl (.int .u8))) false)])], none⟩)], []⟩ Try.f8
noncomputable def i4_9 : ID := aInl Try.prog (envOf [] [] [26, 27] []) ⟨[(3000, ⟨[.slot 5 (.d false (.int .i64) true), .cell 1 0 (.v 32 (.sl (.int .u8)) false), .cell 1 1 (.v 4 .bool false), .cell 1 2 (.d false .bool true), .cell 1 3 (.d false .bool true), .cell 1 4 (.d false (.int .i64) true), .cell 1 5 (.d false (.int .i64) true), .cell 1 6 (.v 77 (.pair (.int .i64) (.sl (.int .u8))) false)], [0], [(some 0, [.cell 1 0 (.v 32 (.sl (.int .u8)) false), .cell 1 1 (.v 4 .bool false), .cell 1 2 (.d false .bool true), .cell 1 3 (.d false .bool true), .cell 1 4 (.d false (.int .i64) true), .cell 1 5 (.d false (.int .i64) true), .cell 1 6 (.v 77 (.pair (.int .i64) (.sl (.int .u8))) false)])], none⟩), (8000, ⟨[.slot 5 (.d false (.int .i64) true), .cell 6 0 (.v 32 (.sl (.int .u8)) false), .cell 6 1 (.v 4 .bool false), .cell 6 2 (.d false .bool true), .cell 6 3 (.d false .bool true), .cell 6 4 (.d false (.int .i64) true), .cell 6 5 (.d false (.int .i64) true), .cell 6 6 (.v 77 (.pair (.int .i64) (.sl (.int .u8))) false)], [5], [(some 0, [.cell 6 0 (.v 32 (.sl (.int .u8)) false), .cell 6 1 (.v 4 .bool false), .cell 6 2 (.d false .bool true), .cell 6 3 (.d false .bool true), .cell 6 4 (.d false (.int .i64) true), .cell 6 5 (.d false (.int .i64) true), .cell 6 6 (.v 77 (.pair (.int .i64) (.sl (.int .u8))) false)])], none⟩)], []⟩ Try.f9
noncomputable def i4_17 : ID := aInl Try.prog (envOf [(22, ⟨[(false, (.rp (.pair (.sl (.sl (.int .u8))) (.pair (.sl .bool) (.pair .bool (.pair .bool (.pair (.int .i64) (.pair (.int .i64) (.sl (.pair (.int .i64) (.sl (.int .u8))))))))))))], [(false, (.int .i64))], false, m22⟩), (29, ⟨[(false, (.rp (.pair (.sl (.sl (.int .u8))) (.pair (.sl .bool) (.pair .bool (.pair .bool (.pair (.int .i64) (.pair (.int .i64) (.sl (.pair (.int .i64) (.sl (.int .u8)))))))))))), (false, (.int .i64))], [(false, (.sl (.int .u8))), (false, (.int .i64))], false, m29⟩)] [] [] []) ⟨[(1000, ⟨[.slot 5 (.v 32 (.sl (.int .u8)) false), .slot 16 (.d false (.int .i64) true)], [], [(some 0, [.slot 5 (.v 32 (.sl (.int .u8)) false)]), (none, [.slot 2 (.d false (.sl (.sl (.int .u8))) true), .slot 3 (.d false (.int .i64) true)])], none⟩), (6000, ⟨[.slot 5 (.v 32 (.sl (.int .u8)) false), .slot 16 (.d false (.int .i64) true)], [], [(some 0, [.slot 5 (.v 32 (.sl (.int .u8)) false)]), (none, [.slot 2 (.d false (.sl (.sl (.int .u8))) true), .slot 3 (.d false (.int .i64) true)])], none⟩), (10000, ⟨[.slot 5 (.v 32 (.sl (.int .u8)) false), .slot 16 (.d false (.int .i64) true)], [], [(some 0, [.slot 5 (.v 32 (.sl (.int .u8)) false)]), (none, [.slot 2 (.d false (.sl (.sl (.int .u8))) true), .slot 3 (.d false (.int .i64) true)])], none⟩), (18000, ⟨[.slot 5 (.v 32 (.sl (.int .u8)) false), .slot 16 (.d false (.int .i64) true)], [], [(some 0, [.slot 5 (.v 32 (.sl (.int .u8)) false)]), (none, [.slot 2 (.d false (.sl (.sl (.int .u8))) true), .slot 3 (.d false (.int .i64) true)])], none⟩)], []⟩ Try.f17
noncomputable def i4_48 : ID := aInl Try.prog (envOf [] [] [] []) ⟨[], []⟩ Try.f48
noncomputable def i4_55 : ID := aInl Try.prog (envOf [(37, ⟨[(false, (.sl (.int .u8)))], [(false, (.sl (.int .u8)))], false, m37⟩)] [] [] []) ⟨[(18000, ⟨[.slot 10 (.d false (.int .i64) true), .cell 11 0 (.v 32 (.sl (.int .u8)) false), .cell 11 1 (.v 4 .bool false), .cell 11 2 (.d false .bool true), .cell 11 3 (.d false .bool true), .cell 11 4 (.d false (.int .i64) true), .cell 11 5 (.d false (.int .i64) true), .cell 11 6 (.v 75 (.pair (.int .i64) (.sl (.int .u8))) false)], [12, 13], [(some 0, [.cell 11 0 (.v 32 (.sl (.int .u8)) false), .cell 11 1 (.v 4 .bool false), .cell 11 2 (.d false .bool true), .cell 11 3 (.d false .bool true), .cell 11 4 (.d false (.int .i64) true), .cell 11 5 (.d false (.int .i64) true), .cell 11 6 (.v 75 (.pair (.int .i64) (.sl (.int .u8))) false)])], none⟩), (26000, ⟨[.slot 10 (.d false (.int .i64) true), .cell 19 0 (.v 32 (.sl (.int .u8)) false), .cell 19 1 (.v 4 .bool false), .cell 19 2 (.d false .bool true), .cell 19 3 (.d false .bool true), .cell 19 4 (.d false (.int .i64) true), .cell 19 5 (.d false (.int .i64) true), .cell 19 6 (.v 75 (.pair (.int .i64) (.sl (.int .u8))) false)], [20, 21], [(some 0, [.cell 19 0 (.v 32 (.sl (.int .u8)) false), .cell 19 1 (.v 4 .bool false), .cell 19 2 (.d false .bool true), .cell 19 3 (.d false .bool true), .cell 19 4 (.d false (.int .i64) true), .cell 19 5 (.d false (.int .i64) true), .cell 19 6 (.v 75 (.pair (.int .i64) (.sl (.int .u8))) false)])], none⟩)], []⟩ Try.f55
noncomputable def i4_26 : ID := aInl Try.prog (envOf [(34, ⟨[(false, (.rp (.pair (.sl (.sl (.int .u8))) (.pair (.sl .bool) (.pair .bool (.pair .bool (.pair (.int .i64) (.pair (.int .i64) (.sl (.pair (.int .i64) (.sl (.int .u8))))))))))))], [(false, .bool)], false, m34⟩)] [(46, IRc.hd ⟨4, .bool, [], [(false, (.sl .bool))], [(.s 4)], m46⟩), (47, IRc.hd ⟨75, (.pair (.int .i64) (.sl (.int .u8))), [], [(false, (.sl (.pair (.int .i64) (.sl (.int .u8)))))], [(.s 75)], m47⟩)] [] [(48, i4_48), (55, i4_55)]) ⟨[], []⟩ Try.f26
noncomputable def i4_20 : ID := aInl Try.prog (envOf [(12, ⟨[(true, (.pair (.int .i64) (.pair (.int .i64) (.pair (.sl (.int .u8)) .bool))))], [(false, (.sl (.int .u8)))], true, m12⟩), (28, ⟨[(false, (.sl (.int .u8))), (false, (.int .i64))], [(false, (.sl (.int .u8)))], false, m28⟩), (29, ⟨[(false, (.rp (.pair (.sl (.sl (.int .u8))) (.pair (.sl .bool) (.pair .bool (.pair .bool (.pair (.int .i64) (.pair (.int .i64) (.sl (.pair (.int .i64) (.sl (.int .u8)))))))))))), (false, (.int .i64))], [(false, (.sl (.int .u8))), (false, (.int .i64))], false, m29⟩), (30, ⟨[(false, (.sl (.int .u8))), (false, (.sl (.int .u8)))], [(false, .bool)], false, m30⟩), (32, ⟨[(false, (.rp (.pair (.sl (.sl (.int .u8))) (.pair (.sl .bool) (.pair .bool (.pair .bool (.pair (.int .i64) (.pair (.int .i64) (.sl (.pair (.int .i64) (.sl (.int .u8))))))))))))], [(false, (.int .i64))], false, m32⟩), (40, ⟨[(false, (.rp (.pair (.sl (.sl (.int .u8))) (.pair (.sl .bool) (.pair .bool (.pair .bool (.pair (.int .i64) (.pair (.int .i64) (.sl (.pair (.int .i64) (.sl (.int .u8)))))))))))), (false, (.int .i64))], [(false, (.sl (.int .u8))), (false, (.int .i64))], false, m40⟩), (41, ⟨[(false, (.rp (.pair (.sl (.sl (.int .u8))) (.pair (.sl .bool) (.pair .bool (.pair .bool (.pair (.int .i64) (.pair (.int .i64) (.sl (.pair (.int .i64) (.sl (.int .u8))))))))))))], [(false, (.int .i64))], false, m41⟩)] [(10, IOc.hd ⟨64, (.pair (.sl (.sl (.int .u8))) (.pair (.sl .bool) (.pair .bool (.pair .bool (.pair (.int .i64) (.pair (.int .i64) (.sl (.pair (.int .i64) (.sl (.int .u8)))))))))), (.p (.s 32) (.p (.s 4) (.p .d (.p .d (.p .d (.p .d (.s 75))))))), [(false, (.int .i64))], [], m10⟩), (11, IOc.hd ⟨64, (.pair (.sl (.sl (.int .u8))) (.pair (.sl .bool) (.pair .bool (.pair .bool (.pair (.int .i64) (.pair (.int .i64) (.sl (.pair (.int .i64) (.sl (.int .u8)))))))))), (.p (.s 32) (.p (.s 4) (.p .d (.p .d (.p .d (.p .d (.s 75))))))), [(false, (.int .i64)), (false, (.sl (.int .u8)))], [(false, (.int .i64))], m11⟩), (15, IOc.hd ⟨49, (.pair (.sl (.sl (.int .u8))) (.pair (.sl .bool) (.pair .bool (.pair .bool (.pair (.int .i64) (.pair (.int .i64) (.sl (.pair (.int .i64) (.sl (.int .u8)))))))))), (.p (.s 32) (.p (.s 4) (.p .d (.p .d (.p .d (.p .d (.s 77))))))), [(false, (.int .i64)), (false, (.sl (.int .u8)))], [(false, (.int .i64))], m15⟩), (16, IOc.hd ⟨64, (.pair (.sl (.sl (.int .u8))) (.pair (.sl .bool) (.pair .bool (.pair .bool (.pair (.int .i64) (.pair (.int .i64) (.sl (.pair (.int .i64) (.sl (.int .u8)))))))))), (.p (.s 32) (.p (.s 4) (.p .d (.p .d (.p .d (.p .d (.s 75))))))), [], [], m16⟩), (33, IOc.hd ⟨64, (.pair (.sl (.sl (.int .u8))) (.pair (.sl .bool) (.pair .bool (.pair .bool (.pair (.int .i64) (.pair (.int .i64) (.sl (.pair (.int .i64) (.sl (.int .u8)))))))))), (.p (.s 32) (.p (.s 4) (.p .d (.p .d (.p .d (.p .d (.s 75))))))), [(false, (.int .i64))], [(false, (.int .i64))], m33⟩), (42, IOc.hd ⟨49, (.pair (.sl (.sl (.int .u8))) (.pair (.sl .bool) (.pair .bool (.pair .bool (.pair (.int .i64) (.pair (.int .i64) (.sl (.pair (.int .i64) (.sl (.int .u8)))))))))), (.p (.s 32) (.p (.s 4) (.p .d (.p .d (.p .d (.p .d (.s 77))))))), [(false, (.int .i64))], [], m42⟩), (43, IOc.hd ⟨49, (.pair (.sl (.sl (.int .u8))) (.pair (.sl .bool) (.pair .bool (.pair .bool (.pair (.int .i64) (.pair (.int .i64) (.sl (.pair (.int .i64) (.sl (.int .u8)))))))))), (.p (.s 32) (.p (.s 4) (.p .d (.p .d (.p .d (.p .d (.s 77))))))), [], [], m43⟩), (44, IOc.hd ⟨49, (.pair (.sl (.sl (.int .u8))) (.pair (.sl .bool) (.pair .bool (.pair .bool (.pair (.int .i64) (.pair (.int .i64) (.sl (.pair (.int .i64) (.sl (.int .u8)))))))))), (.p (.s 32) (.p (.s 4) (.p .d (.p .d (.p .d (.p .d (.s 77))))))), [(false, (.int .i64))], [(false, (.int .i64))], m44⟩)] [] [(26, i4_26)]) ⟨[], []⟩ Try.f20
noncomputable def i4_31 : ID := aInl Try.prog (envOf [] [] [] []) ⟨[], []⟩ Try.f31
noncomputable def i4_45 : ID := aInl Try.prog (envOf [] [] [] []) ⟨[], []⟩ Try.f45
noncomputable def i4_54 : ID := aInl Try.prog (envOf [(34, ⟨[(false, (.rp (.pair (.sl (.sl (.int .u8))) (.pair (.sl .bool) (.pair .bool (.pair .bool (.pair (.int .i64) (.pair (.int .i64) (.sl (.pair (.int .i64) (.sl (.int .u8))))))))))))], [(false, .bool)], false, m34⟩), (37, ⟨[(false, (.sl (.int .u8)))], [(false, (.sl (.int .u8)))], false, m37⟩)] [] [] []) ⟨[(24000, ⟨[.slot 12 (.d false (.int .i64) true), .cell 17 0 (.d false .bool true), .cell 20 0 (.d false (.int .i64) true)], [], [(some 0, [.cell 17 0 (.d false .bool true), .cell 20 0 (.d false (.int .i64) true)]), (none, [.cell 17 0 (.d false .bool true), .cell 20 0 (.d false (.int .i64) true), .lp 22 (.ret)])], none⟩), (25000, ⟨[.slot 12 (.d false (.int .i64) true), .cell 18 0 (.d false .bool true), .cell 21 0 (.d false (.int .i64) true)], [], [(some 0, [.cell 18 0 (.d false .bool true), .cell 21 0 (.d false (.int .i64) true)]), (none, [.cell 18 0 (.d false .bool true), .cell 21 0 (.d false (.int .i64) true), .lp 23 (.ret)])], none⟩)], []⟩ Try.f54
noncomputable def i4_23 : ID := aInl Try.prog (envOf [(30, ⟨[(false, (.sl (.int .u8))), (false, (.sl (.int .u8)))], [(false, .bool)], false, m30⟩)] [] [] [(31, i4_31), (45, i4_45), (54, i4_54)]) ⟨[], []⟩ Try.f23
noncomputable def r4 : PDen [(false, (.int .i64)), (false, (.sl (.pair (.int .i64) (.pair (.int .i64) (.pair (.sl (.int .u8)) .bool)))))] → Option (PDen [(false, .bool)]) := fun x => afun Try.prog (envOf [(7, ⟨[], [(false, .bool)], false, m7⟩), (13, ⟨[(false, (.rp (.pair (.sl (.sl (.int .u8))) (.pair (.sl .bool) (.pair .bool (.pair .bool (.pair (.int .i64) (.pair (.int .i64) (.sl (.pair (.int .i64) (.sl (.int .u8))))))))))))], [(false, (.int .i64))], false, m13⟩), (14, ⟨[(false, (.rp (.pair (.sl (.sl (.int .u8))) (.pair (.sl .bool) (.pair .bool (.pair .bool (.pair (.int .i64) (.pair (.int .i64) (.sl (.pair (.int .i64) (.sl (.int .u8))))))))))))], [(false, .bool)], false, m14⟩), (18, ⟨[(false, (.rp (.pair (.sl (.sl (.int .u8))) (.pair (.sl .bool) (.pair .bool (.pair .bool (.pair (.int .i64) (.pair (.int .i64) (.sl (.pair (.int .i64) (.sl (.int .u8))))))))))))], [(false, (.sl (.sl (.int .u8)))), (false, (.int .i64))], false, m18⟩), (19, ⟨[(false, (.sl (.sl (.int .u8)))), (false, (.sl (.sl (.int .u8))))], [(false, .bool)], false, m19⟩), (21, ⟨[(false, (.rp (.pair (.sl (.sl (.int .u8))) (.pair (.sl .bool) (.pair .bool (.pair .bool (.pair (.int .i64) (.pair (.int .i64) (.sl (.pair (.int .i64) (.sl (.int .u8))))))))))))], [(false, (.int .i64))], false, m21⟩), (22, ⟨[(false, (.rp (.pair (.sl (.sl (.int .u8))) (.pair (.sl .bool) (.pair .bool (.pair .bool (.pair (.int .i64) (.pair (.int .i64) (.sl (.pair (.int .i64) (.sl (.int .u8))))))))))))], [(false, (.int .i64))], false, m22⟩)] [] [] [(8, i4_8), (9, i4_9), (17, i4_17), (20, i4_20), (23, i4_23)]) ⟨[(1000, ⟨[.slot 5 .np, .slot 48 (.d false (.int .i64) true)], [], [(some 0, [.slot 5 .np]), (none, [.slot 4 (.d false .bool true)])], none⟩), (6000, ⟨[.pbox 5 64 7, .pcell 5 0 5 (.v 32 (.sl (.int .u8)) false), .pcell 5 1 5 (.v 4 .bool false), .pcell 5 2 5 (.d false .bool true), .pcell 5 3 5 (.d false .bool true), .pcell 5 4 5 (.d false (.int .i64) true), .pcell 5 5 5 (.d false (.int .i64) true), .pcell 5 6 5 (.v 75 (.pair (.int .i64) (.sl (.int .u8))) false), .slot 48 (.d false (.int .i64) true)], [1, 2, 3, 4], [(some 0, [.pbox 5 64 7, .pcell 5 0 5 (.v 32 (.sl (.int .u8)) false), .pcell 5 1 5 (.v 4 .bool false), .pcell 5 2 5 (.d false .bool true), .pcell 5 3 5 (.d false .bool true), .pcell 5 4 5 (.d false (.int .i64) true), .pcell 5 5 5 (.d false (.int .i64) true), .pcell 5 6 5 (.v 75 (.pair (.int .i64) (.sl (.int .u8))) false)]), (none, [.slot 4 (.d false .bool true)])], none⟩), (11000, ⟨[.pbox 5 64 7, .pcell 5 0 10 (.v 32 (.sl (.int .u8)) false), .pcell 5 1 10 (.v 4 .bool false), .pcell 5 2 10 (.d false .bool true), .pcell 5 3 10 (.d false .bool true), .pcell 5 4 10 (.d false (.int .i64) true), .pcell 5 5 10 (.d false (.int .i64) true), .pcell 5 6 10 (.v 75 (.pair (.int .i64) (.sl (.int .u8))) false), .slot 48 (.d false (.int .i64) true), .cell 6 0 (.v 32 (.sl (.int .u8)) false), .cell 6 1 (.v 4 .bool false), .cell 6 2 (.d false .bool true), .cell 6 3 (.d false .bool true), .cell 6 4 (.d false (.int .i64) true), .cell 6 5 (.d false (.int .i64) true), .cell 6 6 (.v 77 (.pair (.int .i64) (.sl (.int .u8))) false)], [1, 2, 3, 4, 7, 8, 9], [(some 0, [.pbox 5 64 7, .pcell 5 0 10 (.v 32 (.sl (.int .u8)) false), .pcell 5 1 10 (.v 4 .bool false), .pcell 5 2 10 (.d false .bool true), .pcell 5 3 10 (.d false .bool true), .pcell 5 4 10 (.d false (.int .i64) true), .pcell 5 5 10 (.d false (.int .i64) true), .pcell 5 6 10 (.v 75 (.pair (.int .i64) (.sl (.int .u8))) false), .cell 6 0 (.v 32 (.sl (.int .u8)) false), .cell 6 1 (.v 4 .bool false), .cell 6 2 (.d false .bool true), .cell 6 3 (.d false .bool true), .cell 6 4 (.d false (.int .i64) true), .cell 6 5 (.d false (.int .i64) true), .cell 6 6 (.v 77 (.pair (.int .i64) (.sl (.int .u8))) false)]), (none, [.slot 4 (.d false .bool true), .cell 6 0 (.v 32 (.sl (.int .u8)) false), .cell 6 1 (.v 4 .bool false), .cell 6 2 (.d false .bool true), .cell 6 3 (.d false .bool true), .cell 6 4 (.d false (.int .i64) true), .cell 6 5 (.d false (.int .i64) true), .cell 6 6 (.v 77 (.pair (.int .i64) (.sl (.int .u8))) false)])], none⟩)], []⟩ Try.f4 [(false, (.int .i64)), (false, (.sl (.pair (.int .i64) (.pair (.int .i64) (.pair (.sl (.int .u8)) .bool)))))] [(false, .bool)] false x
theorem r4_eq : r4 = m4 := by kernel_rfl

theorem i4_8_sound : i4_8.Sound Try.prog 8 := aInl_sound' (envOf_sound (CSs.nil) (HDs.nil) (IDs.nil)) Try.follows (f := 8) (fn := Try.f8) Try.func8 (by kernel_rfl) (by kernel_rfl)
theorem i4_9_sound : i4_9.Sound Try.prog 9 := aInl_sound' (envOf_sound (CSs.nil) (HDs.nil) (IDs.nil)) Try.follows (f := 9) (fn := Try.f9) Try.func9 (by kernel_rfl) (by kernel_rfl)
theorem i4_17_sound : i4_17.Sound Try.prog 17 := aInl_sound' (envOf_sound (CSs.cons c22 (CSs.cons c29 (CSs.nil))) (HDs.nil) (IDs.nil)) Try.follows (f := 17) (fn := Try.f17) Try.func17 (by kernel_rfl) (by kernel_rfl)
theorem i4_48_sound : i4_48.Sound Try.prog 48 := aInl_sound' (envOf_sound (CSs.nil) (HDs.nil) (IDs.nil)) Try.follows (f := 48) (fn := Try.f48) Try.func48 (by kernel_rfl) (by kernel_rfl)
theorem i4_55_sound : i4_55.Sound Try.prog 55 := aInl_sound' (envOf_sound (CSs.cons c37 (CSs.nil)) (HDs.nil) (IDs.nil)) Try.follows (f := 55) (fn := Try.f55) Try.func55 (by kernel_rfl) (by kernel_rfl)
theorem i4_26_sound : i4_26.Sound Try.prog 26 := aInl_sound' (envOf_sound (CSs.cons c34 (CSs.nil)) (HDs.cons (IRc.Sound.hd c46) (HDs.cons (IRc.Sound.hd c47) (HDs.nil))) (IDs.cons i4_48_sound (IDs.cons i4_55_sound (IDs.nil)))) Try.follows (f := 26) (fn := Try.f26) Try.func26 (by kernel_rfl) (by kernel_rfl)
theorem i4_20_sound : i4_20.Sound Try.prog 20 := aInl_sound' (envOf_sound (CSs.cons c12 (CSs.cons c28 (CSs.cons c29 (CSs.cons c30 (CSs.cons c32 (CSs.cons c40 (CSs.cons c41 (CSs.nil)))))))) (HDs.cons (IOc.Sound.hd c10) (HDs.cons (IOc.Sound.hd c11) (HDs.cons (IOc.Sound.hd c15) (HDs.cons (IOc.Sound.hd c16) (HDs.cons (IOc.Sound.hd c33) (HDs.cons (IOc.Sound.hd c42) (HDs.cons (IOc.Sound.hd c43) (HDs.cons (IOc.Sound.hd c44) (HDs.nil))))))))) (IDs.cons i4_26_sound (IDs.nil))) Try.follows (f := 20) (fn := Try.f20) Try.func20 (by kernel_rfl) (by kernel_rfl)
theorem i4_31_sound : i4_31.Sound Try.prog 31 := aInl_sound' (envOf_sound (CSs.nil) (HDs.nil) (IDs.nil)) Try.follows (f := 31) (fn := Try.f31) Try.func31 (by kernel_rfl) (by kernel_rfl)
theorem i4_45_sound : i4_45.Sound Try.prog 45 := aInl_sound' (envOf_sound (CSs.nil) (HDs.nil) (IDs.nil)) Try.follows (f := 45) (fn := Try.f45) Try.func45 (by kernel_rfl) (by kernel_rfl)
theorem i4_54_sound : i4_54.Sound Try.prog 54 := aInl_sound' (envOf_sound (CSs.cons c34 (CSs.cons c37 (CSs.nil))) (HDs.nil) (IDs.nil)) Try.follows (f := 54) (fn := Try.f54) Try.func54 (by kernel_rfl) (by kernel_rfl)
theorem i4_23_sound : i4_23.Sound Try.prog 23 := aInl_sound' (envOf_sound (CSs.cons c30 (CSs.nil)) (HDs.nil) (IDs.cons i4_31_sound (IDs.cons i4_45_sound (IDs.cons i4_54_sound (IDs.nil))))) Try.follows (f := 23) (fn := Try.f23) Try.func23 (by kernel_rfl) (by kernel_rfl)
theorem c4 : CS.Sound Try.prog 4 ⟨[(false, (.int .i64)), (false, (.sl (.pair (.int .i64) (.pair (.int .i64) (.pair (.sl (.int .u8)) .bool)))))], [(false, .bool)], false, m4⟩ := afun_sound' (envOf_sound (CSs.cons c7 (CSs.cons c13 (CSs.cons c14 (CSs.cons c18 (CSs.cons c19 (CSs.cons c21 (CSs.cons c22 (CSs.nil)))))))) (HDs.nil) (IDs.cons i4_8_sound (IDs.cons i4_9_sound (IDs.cons i4_17_sound (IDs.cons i4_20_sound (IDs.cons i4_23_sound (IDs.nil))))))) rfl Try.follows (f := 4) (fn := Try.f4) Try.func4 (by kernel_rfl) (by kernel_rfl) r4_eq
end Go.Proofs.Ytmengjdjjnhajaa
end

section
/- bytes.Repeat's plain law; what a disk's pages are. -/
namespace Go.Proofs.Ytmengjdjjnhajaa
open Go Go.Proofs.AM

theorem ishr32 {x : Int} (h : 0 ≤ x) : ishr .u64 x 32 = x / 4294967296 := by
  unfold ishr
  rw [Int.fdiv_eq_ediv_of_nonneg _ (by decide)]
  rfl

theorem iand32 {x : Int} (h : 0 ≤ x) (h2 : x < 18446744073709551616) : iand .u64 x 4294967295 = x % 4294967296 := by
  unfold iand
  obtain ⟨n, rfl⟩ := Int.eq_ofNat_of_zero_le h
  have e1 : (BitVec.ofInt (IntKind.bits .u64) (n : Int) &&& BitVec.ofInt (IntKind.bits .u64) 4294967295).toNat = n % 4294967296 := by
    rw [BitVec.toNat_and]
    have a1 : (BitVec.ofInt (IntKind.bits .u64) (n : Int)).toNat = n := by
      have : IntKind.bits .u64 = 64 := rfl
      rw [this, BitVec.toNat_ofInt]
      omega
    have a2 : (BitVec.ofInt (IntKind.bits .u64) 4294967295).toNat = 2 ^ 32 - 1 := by decide
    rw [a1, a2, Nat.and_two_pow_sub_one_eq_mod]
  rw [e1, wrapU64 (by omega) (by omega)]
  omega

theorem m57_eq {x y : Int} (hx : 0 ≤ x) (hx2 : x < 9223372036854775808) (hy : 0 ≤ y) (hy2 : y < 4294967296) (hxy : x * y < 9223372036854775808) : m57 (x, (y, ())) = some (0, (x * y, ())) := by
  have hyd : y / 4294967296 = 0 := by omega
  have hym : y % 4294967296 = y := by omega
  unfold m57
  simp only [ishr32 hx, ishr32 hy, iand32 hx (by omega), iand32 hy (by omega), hyd, hym]
  have hA : 0 ≤ (x / 4294967296) * y := Int.mul_nonneg (by omega) hy
  have hB : 0 ≤ (x % 4294967296) * y := Int.mul_nonneg (by omega) hy
  have hs : x * y = (x / 4294967296) * y * 4294967296 + (x % 4294967296) * y := by
    have : x = (x / 4294967296) * 4294967296 + x % 4294967296 := by omega
    conv => lhs; rw [this, Int.add_mul]
    rw [Int.mul_assoc, Int.mul_assoc, Int.mul_comm 4294967296 y]
  generalize (x / 4294967296) * y = A at *
  generalize (x % 4294967296) * y = B at *
  simp only [Int.mul_zero]
  have w0 : ∀ n : Int, 0 ≤ n → n < 18446744073709551616 → IntKind.wrap .u64 n = n := fun n a b => wrapU64 a b
  rw [w0 A (by omega) (by omega), w0 B (by omega) (by omega), ishr32 hB, w0 0 (by omega) (by omega)]
  have ht : 0 ≤ A + B / 4294967296 ∧ A + B / 4294967296 < 4294967296 := by omega
  rw [w0 (A + B / 4294967296) (by omega) (by omega), ishr32 ht.1, iand32 ht.1 (by omega)]
  have h0 : (A + B / 4294967296) / 4294967296 = 0 := by omega
  have h1 : (A + B / 4294967296) % 4294967296 = A + B / 4294967296 := by omega
  rw [h0, h1]
  simp only [Int.add_zero]
  rw [w0 0 (by omega) (by omega), w0 (A + B / 4294967296) (by omega) (by omega), ishr32 ht.1, h0]
  simp only [Int.add_zero]
  rw [w0 0 (by omega) (by omega), w0 (x * y) (by omega) (by omega)]

theorem m52_eq {x y : Int} (hx : 0 ≤ x) (hx2 : x < 9223372036854775808) (hy : 0 ≤ y) (hy2 : y < 4294967296) (hxy : x * y < 9223372036854775808) : m52 (x, (y, ())) = some (0, (x * y, ())) := by
  unfold m52
  rw [m57_eq hx hx2 hy hy2 hxy]
  rfl

/-- A list over and over, so far. -/
def cyc (xs : List Int) (N : Nat) : List Int := (List.range N).map fun i => xs.getD (i % xs.length) 0

theorem cyc_len (xs : List Int) (N : Nat) : (cyc xs N).length = N := by simp [cyc]

theorem cyc_take (xs : List Int) {n N : Nat} (h : n ≤ N) : (cyc xs N).take n = cyc xs n := by
  unfold cyc
  rw [← List.map_take, List.take_range, Nat.min_eq_left h]

theorem cyc_of {xs l : List Int} {N : Nat} (h1 : l.length = N) (h2 : ∀ j, j < N → l.getD j 0 = xs.getD (j % xs.length) 0) : l = cyc xs N := by
  apply List.ext_getElem?
  intro j
  by_cases hj : j < N
  · have := h2 j hj
    unfold cyc
    rw [List.getElem?_map, List.getElem?_range hj, List.getElem?_eq_getElem (by omega)]
    rw [List.getD_eq_getElem?_getD, List.getElem?_eq_getElem (by omega)] at this
    simp only [Option.map_some, Option.some.injEq]
    simpa using this
  · rw [List.getElem?_eq_none (by omega), List.getElem?_eq_none (by rw [cyc_len]; omega)]

theorem cyc_one (xs : List Int) : cyc xs xs.length = xs := (cyc_of rfl fun j hj => by rw [Nat.mod_eq_of_lt hj]).symm

theorem getD_app (a b : List Int) (j : Nat) : (a ++ b).getD j 0 = if j < a.length then a.getD j 0 else b.getD (j - a.length) 0 := by
  simp only [List.getD_eq_getElem?_getD]
  by_cases h : j < a.length
  · rw [if_pos h, List.getElem?_append_left h]
  · rw [if_neg h, List.getElem?_append_right (by omega)]

theorem grow_law {l : List Int} {b N : Nat} (hl : l.length = N) (hb : b ≤ N) :
    ((l.take b ++ (l.take b).take (N - b)) ++ l.drop (b + min b (N - b))).length = N ∧
      ∀ j, j < b + min b (N - b) → ((l.take b ++ (l.take b).take (N - b)) ++ l.drop (b + min b (N - b))).getD j 0 = if j < b then l.getD j 0 else l.getD (j - b) 0 := by
  have e1 : (l.take b).length = b := by simp; omega
  have e2 : ((l.take b).take (N - b)).length = min b (N - b) := by rw [List.length_take, e1, Nat.min_comm]
  refine ⟨by rw [List.length_append, List.length_append, e1, e2, List.length_drop]; omega, fun j hj => ?_⟩
  have ht : ∀ (m i : Nat) (l : List Int), i < m → (l.take m).getD i 0 = l.getD i 0 := fun m i l h => by
    simp only [List.getD_eq_getElem?_getD]; rw [List.getElem?_take, if_pos h]
  rw [getD_app, List.length_append, e1, e2, if_pos (by omega), getD_app, e1]
  by_cases h : j < b
  · rw [if_pos h, if_pos h, ht _ _ _ h]
  · rw [if_neg h, if_neg h, ht _ _ _ (by omega), ht _ _ _ (by omega)]

theorem eq_of_Ok {A : Type} {o : Option A} {v : A} (h : Ok o (fun r => r = v)) : o = some v := by
  obtain ⟨r, e, rfl⟩ := h; exact e

theorem m28_ok (xs : List Int) (n : Nat) (hx : 0 < xs.length) (hn : 0 < n) (hb : xs.length * n ≤ 140737488355328) (hc : xs.length * n ≤ 8192 ∨ n = 1) (hn2 : n < 4294967296) : m28 (xs, ((n : Int), ())) = some (cyc xs (xs.length * n), ()) := by
  have hL : xs.length ≤ xs.length * n := Nat.le_mul_of_pos_right _ hn
  obtain ⟨N, hN⟩ : ∃ N, N = xs.length * n := ⟨_, rfl⟩
  have hNi : (xs.length : Int) * (n : Int) = (N : Int) := by rw [hN]; simp
  rw [← hN]
  apply eq_of_Ok
  unfold m28
  refine Ok.cond (fun h => by have h : (n : Int) = 0 := h; omega) fun _ => ?_
  refine Ok.cond (fun h => by have h : (n : Int) < 0 := h; omega) fun _ => ?_
  have e0 : IntKind.wrap .u64 (((xs.length : Nat) : Int)) = xs.length := wrapU64 (by omega) (by omega)
  have e1 : IntKind.wrap .u64 ((n : Nat) : Int) = n := wrapU64 (by omega) (by omega)
  refine Ok.bind (S := fun y => y = (0, ((N : Int), ()))) (Ok.of (r := (0, ((N : Int), ()))) ?_ rfl) ?_
  · show m52 (IntKind.wrap .u64 (((xs.length : Nat) : Int)), (IntKind.wrap .u64 ((n : Nat) : Int), ())) = _
    rw [e0, e1, m52_eq (by omega) (by omega) (by omega) (by omega) (by rw [hNi]; omega), hNi]
  rintro _ rfl
  have e2 : IntKind.wrap .i64 ((N : Nat) : Int) = N := wrap64 (by omega) (by omega)
  refine Ok.cond (fun h => by have h : (0 : Int) > 0 := h; omega) fun _ => ?_
  refine Ok.cond (fun h => by have h : (N : Int) > 9223372036854775807 := h; omega) fun _ => ?_
  refine Ok.cond (fun h => by have h : ((xs.length : Nat) : Int) = 0 := h; omega) fun _ => ?_
  simp only [e2]
  -- where the loop is over at once
  have over : ∀ (f : (Int × List Int) → Option ((Int × List Int) ⊕ List Int)) (u : List Int), N = xs.length → (u.length : Int) = N → (∀ x, ¬ x.1 < (N : Int) → f x = some (.inr x.2)) →
      Option.bind (loopM f ((((min (List.length xs) (Int.toNat (N : Int))) : Nat) : Int), ((List.take 0 u) ++ (List.take (Int.toNat (N : Int)) xs)) ++ (List.drop (0 + (min (List.length xs) (Int.toNat (N : Int)))) u))) (fun y3 : List Int => some ((List.take (Int.toNat (N : Int)) (List.drop 0 y3)), ())) = some (cyc xs N, ()) := by
    intro f u h1 h2 hf
    have a1 : Int.toNat (N : Int) = N := by omega
    rw [loopM_eq, hf _ (by simp [a1]; omega)]
    simp only [Option.bind_some, a1, Nat.zero_add, List.take_zero, List.nil_append, List.drop_zero, h1, Nat.min_self, List.take_length]
    rw [cyc_one, List.drop_eq_nil_of_le (by omega), List.append_nil]
    simp
  refine Ok.cond (fun h => ?_) fun h => ?_
  · have h1 : n = 1 := by have h : (N : Int) > 8192 := h; omega
    have h2 : N = xs.length := by rw [hN, h1, Nat.mul_one]
    refine Ok.ite (fun h => by have h : ((xs.length : Nat) : Int) = 0 := h; omega) fun _ => ?_
    refine Ok.cond (fun _ => ?_) fun _ => ?_
    all_goals
      refine Ok.gd (by omega) (Ok.gd (by omega) (Ok.of (r := (cyc xs N, ())) (anyBytes_eq (by omega) fun u hu => ?_) rfl))
      rw [gd_pos (by omega), gd_pos (by omega), gd_pos (by omega)]
      refine over _ u h2 hu fun x hx => ?_
      rw [decide_eq_false hx]; rfl
  · refine Ok.gd (by omega) (Ok.gd (by omega) (Ok.of (r := (cyc xs N, ())) (anyBytes_eq (by omega) fun u hu => ?_) rfl))
    rw [gd_pos (by omega), gd_pos (by omega), gd_pos (by omega)]
    have a1 : Int.toNat (N : Int) = N := by omega
    apply eq_of_Ok
    refine Ok.bind (S := fun l => l = cyc xs N) (Ok.loop N (fun i x => ∃ b : Nat, x.1 = b ∧ i ≤ b ∧ xs.length ≤ b ∧ b ≤ N ∧ xs.length ∣ b ∧ x.2.length = N ∧ ∀ j, j < b → x.2.getD j 0 = xs.getD (j % xs.length) 0) ?_ ?_) ?_
    · refine ⟨xs.length, by simp [a1]; omega, by omega, by omega, by omega, Nat.dvd_refl _, ?_, fun j hj => ?_⟩
      · simp [a1]; omega
      · simp only [a1, Nat.zero_add, List.take_zero, List.nil_append]
        rw [List.take_of_length_le (by omega), getD_app, if_pos hj, Nat.mod_eq_of_lt hj]
    · rintro i ⟨x1, l⟩ hi ⟨b, rfl, hib, hLb, hbN, hdv, hlen, hall⟩
      dsimp only at hlen hall ⊢
      refine Ok.cond (fun hlt => ?_) fun hge => ?_
      · have hlt : b < N := by omega
        have a2 : Int.toNat (b : Int) = b := by omega
        have a3 : (if (N : Int) < (b : Int) then (N : Int) else (b : Int)) = b := if_neg (by omega)
        simp only [a1, a2, a3]
        refine Ok.gd (by omega) (Ok.gd (by omega) (Ok.gd (by omega) (Ok.gd (by omega) (Ok.gd (by omega) (Ok.inl ?_)))))
        have hmin : min (List.length (List.take (b - Int.toNat 0) (List.drop (0 + Int.toNat 0) l))) (N - b) = min b (N - b) := by simp; omega
        refine ⟨by omega, b + min b (N - b), ?_, by omega, by omega, by omega, ?_, ?_, ?_⟩
        · dsimp only
          rw [hmin, wrap64 (by omega) (by omega)]; omega
        · refine Nat.dvd_add hdv ?_
          have hd2 : xs.length ∣ N - b := Nat.dvd_sub (by rw [hN]; exact Nat.dvd_mul_right _ _) hdv
          rcases Nat.le_total b (N - b) with h | h
          · rw [Nat.min_eq_left h]; exact hdv
          · rw [Nat.min_eq_right h]; exact hd2
        · dsimp only
          rw [hmin]
          simp only [Int.toNat_zero, Nat.add_zero, Nat.zero_add, Nat.sub_zero, List.drop_zero]
          exact (grow_law hlen (by omega)).1
        · intro j hj
          dsimp only
          rw [hmin]
          simp only [Int.toNat_zero, Nat.add_zero, Nat.zero_add, Nat.sub_zero, List.drop_zero]
          rw [(grow_law hlen (by omega)).2 j hj]
          by_cases hjb : j < b
          · rw [if_pos hjb, hall j hjb]
          · rw [if_neg hjb, hall (j - b) (by omega)]
            obtain ⟨q, hq⟩ := hdv
            have : j = (j - b) + xs.length * q := by omega
            conv => rhs; rw [this, Nat.add_mul_mod_self_left]
      · have : b = N := by omega
        subst this
        exact Ok.inr (cyc_of hlen hall)
    · rintro _ rfl
      refine Ok.some ?_
      rw [List.drop_zero, a1, List.take_of_length_le (by rw [cyc_len]; omega)]

/-- The bytes that are handed in: a sector's, over and over. -/
def full (b : List Int) : List Int := cyc b 256

theorem full_len (b : List Int) : (full b).length = 256 := cyc_len _ _

theorem m12_eq (a s : Int) (b : List Int) (hb : 0 < b.length) (hb2 : b.length ≤ 140737488355328) : m12 ((a, (s, (b, false))), ()) = some (full b, ()) := by
  apply eq_of_Ok
  unfold m12
  refine Ok.cond (fun h => by have h : ((b.length : Nat) : Int) = 0 := h; omega) fun _ => ?_
  refine Ok.ite (fun h => by have h : ((b.length : Nat) : Int) = 0 := h; omega) fun _ => ?_
  have hq : Int.tdiv 256 ((b.length : Nat) : Int) = ((256 / b.length : Nat) : Int) := by
    rw [Int.tdiv_eq_ediv_of_nonneg (by omega)]; simp
  have hd : 256 / b.length ≤ 256 := Nat.div_le_self _ _
  have hm : b.length * (256 / b.length) ≤ 256 := Nat.mul_div_le _ _
  have hr : 256 < b.length * (256 / b.length + 1) := by
    have := Nat.lt_mul_div_succ 256 hb
    simpa using this
  have hz : ¬ b.length ≤ 256 → 256 / b.length = 0 := fun h => Nat.div_eq_of_lt (by omega)
  generalize 256 / b.length = q at *
  have hmul : b.length * (q + 1) = b.length * q + b.length := by rw [Nat.mul_add, Nat.mul_one]
  have hw : IntKind.wrap .i64 (IntKind.wrap .i64 (Int.tdiv 256 ((b.length : Nat) : Int)) + 1) = ((q + 1 : Nat) : Int) := by
    rw [hq, wrap64 (n := (q : Int)) (by omega) (by omega), wrap64 (by omega) (by omega)]; omega
  refine Ok.bind (S := fun y => y = (cyc b (b.length * (q + 1)), ())) (Ok.of (r := (cyc b (b.length * (q + 1)), ())) ?_ rfl) ?_
  · show m28 (b, (IntKind.wrap .i64 (IntKind.wrap .i64 (Int.tdiv 256 ((b.length : Nat) : Int)) + 1), ())) = _
    rw [hw]
    refine m28_ok b _ hb (by omega) ?_ ?_ (by omega)
    · by_cases h : b.length ≤ 256
      · omega
      · rw [hz h]; omega
    · by_cases h : b.length ≤ 256
      · left; omega
      · right; rw [hz h]
  rintro _ rfl
  refine Ok.gd (by rw [cyc_len]; omega) (Ok.some ?_)
  show ((cyc b (b.length * (q + 1))).take 256, ()) = _
  rw [cyc_take b (by omega)]
  rfl
end Go.Proofs.Ytmengjdjjnhajaa
end

section
/- What a disk's functions make of it: the program's, and the reference's. -/
namespace Go.Proofs.Ytmengjdjjnhajaa
open Go Go.Proofs.AM

abbrev Pg := List Int
/-- Sectors, hurt, off, to be cut, how many are left, how many were done, which. -/
abbrev Dk := List Pg × (List Bool × (Bool × (Bool × (Int × (Int × List (Int × Pg))))))

/-- A disk that was made. -/
structure DOk (n : Nat) (d : Dk) : Prop where
  n0 : 0 < n
  n1 : n ≤ 8192
  ss : d.1.length = n
  hs : d.2.1.length = n
  pg : ∀ p ∈ d.1, p.length = 256

theorem m34_eq {n : Nat} {d : Dk} (h : DOk n d) : m34 (d, ()) = some (false, ()) := by
  unfold m34
  have := h.n0
  have := h.ss
  rw [decide_eq_false (by show ¬ ((d.1.length : Nat) : Int) = 0; omega)]

theorem m35_eq {n : Nat} {d : Dk} (h : DOk n d) : m35 (d, ()) = some (if d.2.2.1 = true then 8 else 0, ()) := by
  unfold m35
  rw [m34_eq h]
  show (bif d.2.2.1 then _ else _) = _
  cases d.2.2.1 <;> rfl

theorem there_eq (d : Dk) (s : Int) : m36 (d, (s, ())) = some (decide (0 ≤ s ∧ s < (d.1.length : Int)), ()) := by
  unfold m36
  by_cases h1 : 0 ≤ s
  · rw [decide_eq_true (show s ≥ 0 from h1)]
    by_cases h2 : s < (d.1.length : Int)
    · rw [decide_eq_true (show s < (d.1.length : Int) from h2), decide_eq_true ⟨h1, h2⟩]; rfl
    · rw [decide_eq_false (show ¬ s < (d.1.length : Int) from h2), decide_eq_false (fun h => h2 h.2)]; rfl
  · rw [decide_eq_false (show ¬ s ≥ 0 from h1), decide_eq_false (show ¬ (0 ≤ s ∧ s < (d.1.length : Int)) from fun h => h1 h.1)]; rfl

theorem thereR_eq (d : Dk) (s : Int) : m38 (d, (s, ())) = some (decide (0 ≤ s ∧ s < (d.1.length : Int)), ()) := there_eq d s

theorem m37_eq (p : Pg) (h : p.length ≤ 140737488355328) : m37 (p, ()) = some (p, ()) := by
  unfold m37
  dsimp only
  rw [gd_pos (by simp; omega), gd_pos (by simp; omega)]
  by_cases h0 : ((p.length : Nat) : Int) = 0
  · obtain rfl : p = [] := List.length_eq_zero_iff.1 (by omega)
    simp [both]
  · rw [decide_eq_false h0]
    simp [both]

theorem m39_eq (p : Pg) (h : p.length ≤ 140737488355328) : m39 (p, ()) = some (p, ()) := by
  unfold m39
  dsimp only
  rw [gd_pos (by simp; omega), gd_pos (by simp; omega)]
  rfl

def last (l : List (Int × Pg)) : List (Int × Pg) := l.drop (l.length - 1024)

def put (keep : List (Int × Pg) → List (Int × Pg)) (d : Dk) (s : Int) (b : Pg) (left : Int) : Dk :=
  (d.1.set s.toNat b, (d.2.1.set s.toNat false, (d.2.2.1, (d.2.2.2.1, (left, (IntKind.wrap .i64 (d.2.2.2.2.2.1 + 1), keep (d.2.2.2.2.2.2 ++ [(s, b)])))))))

/-- What a write makes of a disk. -/
def wrt (keep : List (Int × Pg) → List (Int × Pg)) (d : Dk) (s : Int) (b : Pg) : Dk × (Int × Unit) :=
  if d.2.2.1 = true then (d, (8, ()))
  else if ¬ (0 ≤ s ∧ s < (d.1.length : Int)) then (d, (1, ()))
  else if ¬ b.length = 256 then (d, (1, ()))
  else if d.2.2.2.1 = true then (if d.2.2.2.2.1 = 0 then ((d.1, (d.2.1, (true, d.2.2.2))), (8, ())) else (put keep d s b (IntKind.wrap .i64 (d.2.2.2.2.1 - 1)), (0, ())))
  else (put keep d s b d.2.2.2.2.1, (0, ()))

theorem trim_eq (l : List (Int × Pg)) (h : l.length ≤ 1025) :
    0 ≤ (if IntKind.wrap .i64 (((l.length : Nat) : Int) - 1024) > 0 then IntKind.wrap .i64 (((l.length : Nat) : Int) - 1024) else 0) ∧
    (if IntKind.wrap .i64 (((l.length : Nat) : Int) - 1024) > 0 then IntKind.wrap .i64 (((l.length : Nat) : Int) - 1024) else 0) ≤ ((l.length : Nat) : Int) ∧
    List.take (Int.toNat ((l.length : Nat) : Int) - Int.toNat (if IntKind.wrap .i64 (((l.length : Nat) : Int) - 1024) > 0 then IntKind.wrap .i64 (((l.length : Nat) : Int) - 1024) else 0)) (List.drop (Int.toNat (if IntKind.wrap .i64 (((l.length : Nat) : Int) - 1024) > 0 then IntKind.wrap .i64 (((l.length : Nat) : Int) - 1024) else 0)) l) = last l := by
  rw [wrap64 (by omega) (by omega)]
  unfold last
  by_cases h1 : ((l.length : Nat) : Int) - 1024 > 0
  · rw [if_pos h1]
    have e : Int.toNat (((l.length : Nat) : Int) - 1024) = l.length - 1024 := by omega
    refine ⟨by omega, by omega, ?_⟩
    rw [e, Int.toNat_natCast, List.take_of_length_le (by simp)]
  · rw [if_neg h1]
    have e : l.length - 1024 = 0 := by omega
    refine ⟨by omega, by omega, ?_⟩
    rw [e, Int.toNat_natCast]
    simp

set_option maxHeartbeats 1000000 in
theorem m11_eq {n : Nat} {d : Dk} (h : DOk n d) (hl : d.2.2.2.2.2.2.length ≤ 1024) (s : Int) (b : Pg) : m11 (d, (s, (b, ()))) = some (wrt last d s b) := by
  obtain ⟨ss, hs, off, cut, left, many, log⟩ := d
  have n0 := h.n0
  have n1 := h.n1
  have h1 : ss.length = n := h.ss
  have h2 : hs.length = n := h.hs
  have hl : log.length ≤ 1024 := hl
  apply eq_of_Ok
  unfold m11
  refine Ok.bind (S := fun y => y = (if off = true then 8 else 0, ())) (Ok.of (m35_eq h) rfl) ?_
  rintro _ rfl
  unfold wrt
  cases off with
  | true =>
    refine Ok.ncond (fun _ => Ok.some rfl) fun hc => ?_
    have : (8 : Int) = 0 := hc
    omega
  | false =>
    refine Ok.ncond (fun hc => absurd rfl hc) fun _ => ?_
    rw [if_neg (by simp)]
    refine Ok.bind (S := fun y => y = (decide (0 ≤ s ∧ s < (ss.length : Int)), ())) (Ok.of (there_eq _ s) rfl) ?_
    rintro _ rfl
    refine Ok.ncond (fun hn => ?_) fun hth => ?_
    · rw [if_pos hn]; exact Ok.some rfl
    · rw [if_neg (fun hh => hh hth)]
      obtain ⟨s0, s1⟩ := hth
      obtain ⟨k, rfl⟩ := Int.eq_ofNat_of_zero_le s0
      have hk : k < n := by omega
      refine Ok.ncond (fun hn => ?_) fun hb => ?_
      · have hn : ¬ ((b.length : Nat) : Int) = 256 := hn
        rw [if_pos (by omega)]; exact Ok.some rfl
      · have hb : ((b.length : Nat) : Int) = 256 := hb
        rw [if_neg (fun hh => hh (by omega))]
        have ht := trim_eq (log ++ [((k : Int), b)]) (by simp; omega)
        obtain ⟨t1, t2, t3⟩ := ht
        have hclone := m37_eq b (by omega)
        have hlen : (log ++ [((k : Int), b)]).length = log.length + 1 := by simp
        cases cut with
        | true =>
          refine Ok.condb (fun _ => ?_) fun hc => absurd hc (by simp)
          rw [if_pos rfl]
          refine Ok.cond (fun hz => ?_) fun hz => ?_
          · rw [if_pos hz]; exact Ok.some rfl
          · rw [if_neg hz]
            refine Ok.bind (S := fun y => y = (b, ())) (Ok.of hclone rfl) ?_
            rintro _ rfl
            dsimp only
            refine Ok.gd (by omega) (Ok.gd (by omega) (Ok.gd (by omega) (Ok.gd (by omega) (Ok.gd (by omega) (Ok.gd (by omega) (Ok.bind (S := fun y => y = (b, ())) (Ok.of hclone rfl) ?_))))))
            rintro _ rfl
            dsimp only
            refine Ok.gd (by simp; omega) (Ok.gd (by simp; omega) (Ok.gd t1 (Ok.gd t2 (Ok.gd (Int.le_refl _) (Ok.some ?_)))))
            rw [t3]
            rfl
        | false =>
          refine Ok.condb (fun hc => absurd hc (by simp)) fun _ => ?_
          rw [if_neg (by simp)]
          refine Ok.bind (S := fun y => y = (b, ())) (Ok.of hclone rfl) ?_
          rintro _ rfl
          dsimp only
          refine Ok.gd (by omega) (Ok.gd (by omega) (Ok.gd (by omega) (Ok.gd (by omega) (Ok.gd (by omega) (Ok.gd (by omega) (Ok.bind (S := fun y => y = (b, ())) (Ok.of hclone rfl) ?_))))))
          rintro _ rfl
          dsimp only
          refine Ok.gd (by simp; omega) (Ok.gd (by simp; omega) (Ok.gd t1 (Ok.gd t2 (Ok.gd (Int.le_refl _) (Ok.some ?_)))))
          rw [t3]
          rfl

set_option maxHeartbeats 1000000 in
theorem m15_eq {n : Nat} {d : Dk} (h : DOk n d) (hl : d.2.2.2.2.2.2.length ≤ 1000000) (s : Int) (b : Pg) : m15 (d, (s, (b, ()))) = some (wrt id d s b) := by
  obtain ⟨ss, hs, off, cut, left, many, log⟩ := d
  have n0 := h.n0
  have n1 := h.n1
  have h1 : ss.length = n := h.ss
  have h2 : hs.length = n := h.hs
  have hl : log.length ≤ 1000000 := hl
  apply eq_of_Ok
  unfold m15 wrt
  cases off with
  | true =>
    refine Ok.condb (fun _ => Ok.some rfl) fun hc => absurd hc (by simp)
  | false =>
    refine Ok.condb (fun hc => absurd hc (by simp)) fun _ => ?_
    rw [if_neg (by simp)]
    refine Ok.bind (S := fun y => y = (decide (0 ≤ s ∧ s < (ss.length : Int)), ())) (Ok.of (thereR_eq _ s) rfl) ?_
    rintro _ rfl
    refine Ok.ncond (fun hn => ?_) fun hth => ?_
    · rw [if_pos hn]; exact Ok.some rfl
    · rw [if_neg (fun hh => hh hth)]
      obtain ⟨s0, s1⟩ := hth
      obtain ⟨k, rfl⟩ := Int.eq_ofNat_of_zero_le s0
      have hk : k < n := by omega
      refine Ok.ncond (fun hn => ?_) fun hb => ?_
      · have hn : ¬ ((b.length : Nat) : Int) = 256 := hn
        rw [if_pos (by omega)]; exact Ok.some rfl
      · have hb : ((b.length : Nat) : Int) = 256 := hb
        rw [if_neg (fun hh => hh (by omega))]
        have hclone := m39_eq b (by omega)
        cases cut with
        | true =>
          refine Ok.condb (fun _ => ?_) fun hc => absurd hc (by simp)
          rw [if_pos rfl]
          refine Ok.cond (fun hz => ?_) fun hz => ?_
          · rw [if_pos hz]; exact Ok.some rfl
          · rw [if_neg hz]
            refine Ok.condb (fun _ => ?_) fun hc => absurd hc (by simp)
            refine Ok.bind (S := fun y => y = (b, ())) (Ok.of hclone rfl) ?_
            rintro _ rfl
            dsimp only
            refine Ok.gd (by omega) (Ok.gd (by omega) (Ok.gd (by omega) (Ok.gd (by omega) (Ok.gd (by omega) (Ok.gd (by omega) (Ok.bind (S := fun y => y = (b, ())) (Ok.of hclone rfl) ?_))))))
            rintro _ rfl
            dsimp only
            refine Ok.gd (by simp; omega) (Ok.gd (by simp; omega) (Ok.some rfl))
        | false =>
          refine Ok.condb (fun hc => absurd hc (by simp)) fun _ => ?_
          rw [if_neg (by simp)]
          refine Ok.condb (fun hc => absurd hc (by simp)) fun _ => ?_
          refine Ok.bind (S := fun y => y = (b, ())) (Ok.of hclone rfl) ?_
          rintro _ rfl
          dsimp only
          refine Ok.gd (by omega) (Ok.gd (by omega) (Ok.gd (by omega) (Ok.gd (by omega) (Ok.gd (by omega) (Ok.gd (by omega) (Ok.bind (S := fun y => y = (b, ())) (Ok.of hclone rfl) ?_))))))
          rintro _ rfl
          dsimp only
          refine Ok.gd (by simp; omega) (Ok.gd (by simp; omega) (Ok.some rfl))

/-- What is read. -/
def rea (d : Dk) (s : Int) : Pg × (Int × Unit) :=
  if d.2.2.1 = true then ([], (8, ()))
  else if ¬ (0 ≤ s ∧ s < (d.1.length : Int)) then ([], (1, ()))
  else if d.2.1.getD s.toNat false = true then ([], (80, ()))
  else (d.1.getD s.toNat [], (0, ()))

theorem pg_len {n : Nat} {d : Dk} (h : DOk n d) (k : Nat) : (d.1.getD k []).length ≤ 256 := by
  by_cases hk : k < d.1.length
  · rw [List.getD_eq_getElem?_getD, List.getElem?_eq_getElem hk]
    have := h.pg _ (List.getElem_mem hk)
    simp [this]
  · rw [List.getD_eq_getElem?_getD, List.getElem?_eq_none (by omega)]
    simp

theorem m29_eq {n : Nat} {d : Dk} (h : DOk n d) (s : Int) : m29 (d, (s, ())) = some (rea d s) := by
  have n0 := h.n0
  have n1 := h.n1
  have h1 := h.ss
  have h2 := h.hs
  have hp := pg_len h s.toNat
  obtain ⟨ss, hs, off, cut, left, many, log⟩ := d
  dsimp only at h1 h2 hp
  apply eq_of_Ok
  unfold m29 rea
  refine Ok.bind (S := fun y => y = (if off = true then 8 else 0, ())) (Ok.of (m35_eq h) rfl) ?_
  rintro _ rfl
  cases off with
  | true =>
    refine Ok.ncond (fun _ => Ok.some rfl) fun hc => ?_
    have : (8 : Int) = 0 := hc
    omega
  | false =>
    refine Ok.ncond (fun hc => absurd rfl hc) fun _ => ?_
    rw [if_neg (by simp)]
    refine Ok.bind (S := fun y => y = (decide (0 ≤ s ∧ s < (ss.length : Int)), ())) (Ok.of (there_eq _ s) rfl) ?_
    rintro _ rfl
    refine Ok.ncond (fun hn => ?_) fun hth => ?_
    · rw [if_pos hn]; exact Ok.some rfl
    · rw [if_neg (fun hh => hh hth)]
      dsimp only
      refine Ok.gd hth.1 (Ok.gd (by omega) (Ok.condb (fun hb => ?_) fun hb => ?_))
      · rw [if_pos hb]; exact Ok.some rfl
      · rw [if_neg (by rw [hb]; simp)]
        refine Ok.gd hth.1 (Ok.gd (by omega) (Ok.bind (S := fun y => y = (ss.getD s.toNat [], ())) (Ok.of (m37_eq _ (by omega)) rfl) ?_))
        rintro _ rfl
        exact Ok.some rfl

theorem m40_eq {n : Nat} {d : Dk} (h : DOk n d) (s : Int) : m40 (d, (s, ())) = some (rea d s) := by
  have n0 := h.n0
  have n1 := h.n1
  have h1 := h.ss
  have h2 := h.hs
  have hp := pg_len h s.toNat
  obtain ⟨ss, hs, off, cut, left, many, log⟩ := d
  dsimp only at h1 h2 hp
  apply eq_of_Ok
  unfold m40 rea
  cases off with
  | true => exact Ok.condb (fun _ => Ok.some rfl) fun hc => absurd hc (by simp)
  | false =>
    refine Ok.condb (fun hc => absurd hc (by simp)) fun _ => ?_
    rw [if_neg (by simp)]
    refine Ok.bind (S := fun y => y = (decide (0 ≤ s ∧ s < (ss.length : Int)), ())) (Ok.of (thereR_eq _ s) rfl) ?_
    rintro _ rfl
    refine Ok.ncond (fun hn => ?_) fun hth => ?_
    · rw [if_pos hn]; exact Ok.some rfl
    · rw [if_neg (fun hh => hh hth)]
      dsimp only
      refine Ok.gd hth.1 (Ok.gd (by omega) (Ok.condb (fun hb => ?_) fun hb => ?_))
      · rw [if_pos hb]; exact Ok.some rfl
      · rw [if_neg (by rw [hb]; simp)]
        refine Ok.gd hth.1 (Ok.gd (by omega) (Ok.bind (S := fun y => y = (ss.getD s.toNat [], ())) (Ok.of (m39_eq _ (by omega)) rfl) ?_))
        rintro _ rfl
        exact Ok.some rfl

theorem m22_eq {n : Nat} {d : Dk} (h : DOk n d) : m22 (d, ()) = some ((n : Int), ()) := by
  unfold m22
  rw [m34_eq h, ← h.ss]
  rfl
theorem m13_eq {n : Nat} {d : Dk} (h : DOk n d) : m13 (d, ()) = some ((n : Int), ()) := by
  unfold m13
  rw [← h.ss]
theorem m14_eq {n : Nat} {d : Dk} (h : DOk n d) : m14 (d, ()) = some (!d.2.2.1, ()) := by
  unfold m14
  rw [m35_eq h]
  cases hd : d.2.2.1 <;> simp
theorem m16_eq {n : Nat} {d : Dk} (h : DOk n d) : m16 (d, ()) = some ((d.1, (d.2.1, (false, (false, (0, d.2.2.2.2.2))))), ()) := by
  unfold m16
  rw [m34_eq h]
  rfl
theorem m10_eq {n : Nat} {d : Dk} (h : DOk n d) (k : Int) : m10 (d, (k, ())) = some ((d.1, (d.2.1, (d.2.2.1, (decide (k ≥ 0), (if 0 > k then 0 else k, d.2.2.2.2.2))))), ()) := by
  unfold m10
  rw [m34_eq h]
  rfl

theorem set_mem {α : Type} {l : List α} {i : Nat} {a x : α} (h : x ∈ l.set i a) : x ∈ l ∨ x = a := List.mem_or_eq_of_mem_set h

theorem DOk.put {n : Nat} {d : Dk} (h : DOk n d) (keep : List (Int × Pg) → List (Int × Pg)) (s : Int) {b : Pg} (hb : b.length = 256) (left : Int) : DOk n (put keep d s b left) :=
  ⟨h.n0, h.n1, by show (d.1.set _ _).length = n; simp [h.ss], by show (d.2.1.set _ _).length = n; simp [h.hs], fun p hp => by
    rcases set_mem hp with hp | rfl
    · exact h.pg p hp
    · exact hb⟩

/-- All is well with a disk's sectors: none is hurt. -/
def Well (d : Dk) : Prop := ∀ k, d.2.1.getD k false = false

theorem Well.put {d : Dk} (h : Well d) (keep : List (Int × Pg) → List (Int × Pg)) (s : Int) (b : Pg) (left : Int) : Well (put keep d s b left) := fun k => by
  show (d.2.1.set s.toNat false).getD k false = false
  rw [List.getD_eq_getElem?_getD, List.getElem?_set]
  have := h k
  rw [List.getD_eq_getElem?_getD] at this
  split
  · split <;> rfl
  · exact this

theorem take_succ {α : Type} [Inhabited α] (l : List α) (i : Nat) (h : i < l.length) (z : α) : l.take i ++ [l.getD i z] = l.take (i + 1) := by
  rw [List.take_add_one, List.getD_eq_getElem?_getD, List.getElem?_eq_getElem h]
  rfl

theorem m18_eq {n : Nat} {d : Dk} (h : DOk n d) (hw : Well d) (hg : d.2.2.1 = false) : m18 (d, ()) = some (d.1, (0, ())) := by
  have n1 := h.n1
  have hs := h.ss
  apply eq_of_Ok
  unfold m18
  refine Ok.bind (S := fun e => e = .inl d.1) (Ok.loop n (fun i x => x = (d.1.take i, (i : Int))) rfl ?_) ?_
  · rintro i _ hi rfl
    refine Ok.bind (S := fun y => y = ((n : Int), ())) (Ok.of (m13_eq h) rfl) ?_
    rintro _ rfl
    refine Ok.cond (fun hlt => ?_) fun hge => ?_
    · have hlt : (i : Int) < n := hlt
      have hrd : rea d (i : Int) = (d.1.getD i [], (0, ())) := by
        unfold rea
        rw [if_neg (by rw [hg]; simp), if_neg (fun hh => hh ⟨by omega, by omega⟩), Int.toNat_natCast, if_neg (by rw [hw]; simp)]
      refine Ok.bind (S := fun y => y = rea d (i : Int)) (Ok.of (m40_eq h _) rfl) ?_
      rintro _ rfl
      rw [hrd]
      refine Ok.ncond (fun hc => absurd rfl hc) fun _ => ?_
      have hlen : (d.1.take i).length = i := by simp; omega
      dsimp only
      refine Ok.gd (by simp; omega) (Ok.gd (by simp; omega) (Ok.inl ⟨by omega, ?_⟩))
      rw [take_succ _ _ (by omega), wrap64 (by omega) (by omega)]
      rfl
    · have hge : ¬ (i : Int) < n := hge
      obtain rfl : i = n := by omega
      refine Ok.inr ?_
      show Sum.inl (d.1.take i) = _
      rw [List.take_of_length_le (by omega)]
  · rintro _ rfl
    exact Ok.some rfl
end Go.Proofs.Ytmengjdjjnhajaa
end

section
/- The law's first look: two writes, the second cuts the power. -/
namespace Go.Proofs.Ytmengjdjjnhajaa
open Go Go.Proofs.AM

def zp : Pg := List.replicate (Int.toNat 256) 0

theorem zp_len : zp.length = 256 := by simp [zp]

theorem new_loop {Y : Type} (n : Nat) (hn : n ≤ 8192) (m : Int) (hm : m = n) (r : Y) (f : Int × (List Pg × Y) → Option ((Int × (List Pg × Y)) ⊕ (List Pg × Y)))
    (hf : ∀ i ss, f (i, (ss, r)) = (bif (decide (i < m)) then
        (gd (((256 : Int) * (1 : Int)) ≤ (140737488355328 : Int)) (gd ((((List.length ss) + (List.length ((List.replicate (Int.toNat (256 : Int)) (0 : Int)) :: ([] : List (List Int))))) * 24) ≤ 140737488355328) (gd (((List.length ss) + (List.length ((List.replicate (Int.toNat (256 : Int)) (0 : Int)) :: ([] : List (List Int))))) ≤ 140737488355328) (some (Sum.inl ((Go.IntKind.wrap .i64 (i + (1 : Int))), ((ss ++ ((List.replicate (Int.toNat (256 : Int)) (0 : Int)) :: ([] : List (List Int)))), r)))))))
      else some (Sum.inr (ss, r)))) : loopM f (0, ([], r)) = some (List.replicate n zp, r) := by
  apply eq_of_Ok
  refine Ok.loop n (fun i x => x = ((i : Int), (List.replicate i zp, r))) rfl ?_
  rintro i _ hi rfl
  rw [hf]
  refine Ok.cond (fun hlt => ?_) fun hge => ?_
  · refine Ok.gd (by decide) (Ok.gd (by simp; omega) (Ok.gd (by simp; omega) (Ok.inl ⟨by omega, ?_⟩)))
    rw [wrap64 (by omega) (by omega), List.replicate_succ']
    rfl
  · obtain rfl : i = n := by omega
    exact Ok.inr rfl

/-- A new disk. -/
def d0 (n : Nat) : Dk := (List.replicate n zp, (List.replicate n false, (false, (false, (0, (0, []))))))

theorem d0_ok {n : Nat} (h : 0 < n) (h1 : n ≤ 8192) : DOk n (d0 n) :=
  ⟨h, h1, by simp [d0], by simp [d0], fun p hp => by
    have hp : p ∈ List.replicate n zp := hp
    rw [(List.mem_replicate.1 hp).2]; exact zp_len⟩

theorem d0_well (n : Nat) : Well (d0 n) := fun k => by
  show (List.replicate n false).getD k false = false
  rw [List.getD_eq_getElem?_getD, List.getElem?_replicate]
  split <;> rfl

theorem last_len (l : List (Int × Pg)) : (last l).length ≤ 1024 := by
  unfold last
  rw [List.length_drop]
  omega

theorem put_log (keep : List (Int × Pg) → List (Int × Pg)) (d : Dk) (s : Int) (b : Pg) (left : Int) : (put keep d s b left).2.2.2.2.2.2 = keep (d.2.2.2.2.2.2 ++ [(s, b)]) := rfl

theorem streq_self (a : ByteArray) : streq a a = true := by
  unfold streq
  rw [← str_beq]
  simp

theorem m30_self (p : Pg) : m30 (p, (p, ())) = some (true, ()) := by
  unfold m30
  rw [show ((p, (p, ())) : Pg × Pg × Unit).2.1 = p from rfl]
  show some (streq (strOfNums p) (strOfNums p), ()) = _
  rw [streq_self]

/-- The same sectors and the rest, whatever the power does. -/
theorem DOk.same {n : Nat} {d e : Dk} (h : DOk n d) (h1 : e.1 = d.1) (h2 : e.2.1 = d.2.1) : DOk n e :=
  ⟨h.n0, h.n1, by rw [h1]; exact h.ss, by rw [h2]; exact h.hs, by rw [h1]; exact h.pg⟩

theorem m7_eq : m7 () = some (true, ()) := by
  apply eq_of_Ok
  unfold m7
  refine Ok.cond (fun h => absurd h (by decide)) fun _ => Ok.cond (fun h => absurd h (by decide)) fun _ => Ok.gd (by decide) ?_
  refine Ok.bind (S := fun y => y = d0 3) (Ok.of (new_loop 3 (by decide) 3 rfl (List.replicate (Int.toNat 3) false, (false, (false, (0, (0, []))))) _ (fun _ _ => rfl)) rfl) ?_
  rintro _ rfl
  refine Ok.ncond (fun h => absurd rfl h) fun _ => ?_
  have hb : (cyc [7] 256).length = 256 := cyc_len _ _
  have h28 : ∀ N, N = 256 → m28 ([7], (((N : Nat) : Int), ())) = some (cyc [7] N, ()) := fun N hN => by
    have h := m28_ok [7] N (by decide) (by omega) (by simp; omega) (.inl (by simp; omega)) (by omega)
    have e : [(7 : Int)].length * N = N := Nat.one_mul N
    exact h.trans (by rw [e])
  have h28 := h28 256 rfl
  refine Ok.bind (S := fun y => y = (cyc [7] 256, ())) (Ok.of h28 rfl) ?_
  rintro _ rfl
  generalize cyc [7] 256 = b at hb
  have o0 : DOk 3 (d0 3) := d0_ok (by decide) (by decide)
  refine Ok.bind (S := fun y => y = ((List.replicate 3 zp, (List.replicate 3 false, (false, (true, (1, (0, [])))))), ())) (Ok.of (m10_eq o0 1) rfl) ?_
  rintro _ rfl
  have o1 : DOk 3 (List.replicate 3 zp, (List.replicate 3 false, (false, (true, (1, (0, [])))))) := o0.same rfl rfl
  have w1 : wrt last (List.replicate 3 zp, (List.replicate 3 false, (false, (true, (1, (0, [])))))) 1 b = (put last (List.replicate 3 zp, (List.replicate 3 false, (false, (true, (1, (0, [])))))) 1 b 0, (0, ())) := by
    unfold wrt
    rw [if_neg (by simp), if_neg (by simp), if_neg (by simp [hb]), if_pos rfl, if_neg (by simp)]
    rfl
  refine Ok.bind (S := fun y => y = (put last (List.replicate 3 zp, (List.replicate 3 false, (false, (true, (1, (0, [])))))) 1 b 0, (0, ()))) (Ok.of ((m11_eq o1 (by simp) 1 b).trans (by rw [w1])) rfl) ?_
  rintro _ rfl
  refine Ok.ncond (fun h => absurd rfl h) fun _ => ?_
  have o2 := o1.put last 1 hb 0
  obtain ⟨d2, hd2⟩ : ∃ d2, d2 = put last (List.replicate 3 zp, (List.replicate 3 false, (false, (true, (1, (0, [])))))) 1 b 0 := ⟨_, rfl⟩
  have hlog : d2.2.2.2.2.2.2.length ≤ 1024 := by rw [hd2, put_log]; exact last_len _
  rw [← hd2] at o2 ⊢
  have w2 : wrt last d2 2 b = ((d2.1, (d2.2.1, (true, d2.2.2.2))), (8, ())) := by
    unfold wrt
    have a1 : d2.2.2.1 = false := by rw [hd2]; rfl
    have a2 : d2.2.2.2.1 = true := by rw [hd2]; rfl
    have a3 : d2.2.2.2.2.1 = 0 := by rw [hd2]; rfl
    have a4 := o2.ss
    rw [if_neg (by rw [a1]; decide), if_neg (fun h => h ⟨by decide, by omega⟩), if_neg (fun h => h hb), if_pos a2, if_pos a3]
  refine Ok.bind (S := fun y => y = ((d2.1, (d2.2.1, (true, d2.2.2.2))), (8, ()))) (Ok.of ((m11_eq o2 hlog 2 b).trans (by rw [w2])) rfl) ?_
  rintro _ rfl
  refine Ok.ncond (fun h => absurd rfl h) fun _ => ?_
  have o3 : DOk 3 (d2.1, (d2.2.1, (true, d2.2.2.2))) := o2.same rfl rfl
  refine Ok.bind (S := fun y => y = (false, ())) (Ok.of (m14_eq o3) rfl) ?_
  rintro _ rfl
  refine Ok.condb (fun h => absurd h (by simp)) fun _ => ?_
  refine Ok.bind (S := fun y => y = ((d2.1, (d2.2.1, (false, (false, (0, d2.2.2.2.2.2))))), ())) (Ok.of (m16_eq o3) rfl) ?_
  rintro _ rfl
  have o4 : DOk 3 (d2.1, (d2.2.1, (false, (false, (0, d2.2.2.2.2.2))))) := o2.same rfl rfl
  have r1 : rea (d2.1, (d2.2.1, (false, (false, (0, d2.2.2.2.2.2))))) 1 = (b, (0, ())) := by rw [hd2]; rfl
  have r2 : rea (d2.1, (d2.2.1, (false, (false, (0, d2.2.2.2.2.2))))) 2 = (zp, (0, ())) := by rw [hd2]; rfl
  refine Ok.bind (S := fun y => y = (b, (0, ()))) (Ok.of ((m29_eq o4 1).trans (by rw [r1])) rfl) ?_
  rintro _ rfl
  refine Ok.bind (S := fun y => y = (zp, (0, ()))) (Ok.of ((m29_eq o4 2).trans (by rw [r2])) rfl) ?_
  rintro _ rfl
  refine Ok.cond (fun _ => ?_) fun h => absurd rfl h
  refine Ok.cond (fun _ => ?_) fun h => absurd rfl h
  refine Ok.bind (S := fun y => y = (true, ())) (Ok.of (m30_self b) rfl) ?_
  rintro _ rfl
  refine Ok.condb (fun _ => ?_) fun h => absurd h (by simp)
  refine Ok.gd (by decide) (Ok.bind (S := fun y => y = (true, ())) (Ok.of (m30_self zp) rfl) ?_)
  rintro _ rfl
  exact Ok.some rfl

/-- The same sectors are told to be the same. -/
theorem m19_self (l : List Pg) (hl : l.length ≤ 1000000) : m19 (l, (l, ())) = some (true, ()) := by
  apply eq_of_Ok
  unfold m19
  refine Ok.ncond (fun h => absurd rfl h) fun _ => ?_
  refine Ok.bind (S := fun e => e = .inl ()) (Ok.loop l.length (fun i x => x = (i : Int)) rfl ?_) ?_
  · rintro i _ hi rfl
    refine Ok.cond (fun hlt => ?_) fun hge => Ok.inr rfl
    have hlt : (i : Int) < (l.length : Int) := hlt
    refine Ok.gd (by omega) (Ok.gd hlt (Ok.gd (by omega) (Ok.gd hlt ?_)))
    rw [streq_self]
    refine Ok.condb (fun h => absurd h (by simp)) fun _ => Ok.inl ⟨by omega, ?_⟩
    rw [wrap64 (by omega) (by omega)]
    rfl
  · rintro _ rfl
    exact Ok.some rfl
end Go.Proofs.Ytmengjdjjnhajaa
end

section
/- What function 51 (slices.Equal(()byte,byte)) computes, by the kernel. -/
open Go Go.Proofs.AM
namespace Go.Proofs.Ytmengjdjjnhajaa

noncomputable def m51 (x : (List Int) × (List Int) × Unit) : Option (Bool × Unit) :=
  bif (!(decide ((((List.length x.1) : Nat) : Int) = (((List.length x.2.1) : Nat) : Int)))) then
    (some (false, ()))
  else
    (Option.bind (loopM (X := Int) (E := (Unit ⊕ Bool)) (fun (x1 : Int) =>
        bif (decide (x1 < (((List.length x.1) : Nat) : Int))) then
          (gd ((0 : Int) ≤ x1) (gd (x1 < (((List.length x.1) : Nat) : Int)) (gd ((0 : Int) ≤ x1) (gd (x1 < (((List.length x.2.1) : Nat) : Int)) (bif (!(decide ((List.getD x.1 (Int.toNat x1) (0 : Int)) = (List.getD x.2.1 (Int.toNat x1) (0 : Int))))) then
                    (some (Sum.inr (Sum.inr false)))
                  else
                    (some (Sum.inl (Go.IntKind.wrap .i64 (x1 + (1 : Int))))))))))
        else
          (some (Sum.inr (Sum.inl ())))) (0 : Int)) fun (y1 : (Unit ⊕ Bool)) =>
    Sum.elim (fun y2 =>
      some (true, ())) (fun y2 =>
      some (y2, ())) y1)

noncomputable def r51 : PDen [(false, (.sl (.int .u8))), (false, (.sl (.int .u8)))] → Option (PDen [(false, .bool)]) := fun x => afun Try.prog (envOf [] [] [] []) ⟨[(0, ⟨[.slot 13 (.d false (.int .i64) true)], [], [(some 0, []), (none, [.slot 4 (.d false .bool true)])], none⟩)], []⟩ Try.f51 [(false, (.sl (.int .u8))), (false, (.sl (.int .u8)))] [(false, .bool)] false x
theorem r51_eq : r51 = m51 := by kernel_rfl

theorem c51 : CS.Sound Try.prog 51 ⟨[(false, (.sl (.int .u8))), (false, (.sl (.int .u8)))], [(false, .bool)], false, m51⟩ := afun_sound' (envOf_sound (CSs.nil) (HDs.nil) (IDs.nil)) rfl Try.follows (f := 51) (fn := Try.f51) Try.func51 (by kernel_rfl) (by kernel_rfl) r51_eq
end Go.Proofs.Ytmengjdjjnhajaa
end

section
/- What function 27 (slipway/disk.Same) computes, by the kernel. -/
open Go Go.Proofs.AM
namespace Go.Proofs.Ytmengjdjjnhajaa

noncomputable def m27 (x : ((List (List Int)) × ((List Bool) × (Bool × (Bool × (Int × (Int × (List (Int × (List Int))))))))) × ((List (List Int)) × ((List Bool) × (Bool × (Bool × (Int × (Int × (List (Int × (List Int))))))))) × Unit) : Option (Bool × Unit) :=
  Option.bind (m22 (x.1, ())) fun (y1 : (Int × Unit)) =>
  bif (decide (y1.1 = (0 : Int))) then
    (Option.bind (m22 (x.2.1, ())) fun (y2 : (Int × Unit)) =>
    bif (decide (y2.1 = (0 : Int))) then
      (bif (decide ((2 : Int) = (0 : Int))) then
        (bif (decide ((2 : Int) = (0 : Int))) then
          (bif (!(decide ((0 : Int) = (0 : Int)))) then
            (some (false, ()))
          else
            (Option.bind (loopM (X := Int) (E := (Unit ⊕ Bool)) (fun (x3 : Int) =>
                bif (decide (x3 < (0 : Int))) then
                  (none)
                else
                  (some (Sum.inr (Sum.inl ())))) (0 : Int)) fun (y3 : (Unit ⊕ Bool)) =>
            Sum.elim (fun y4 =>
              some (true, ())) (fun y4 =>
              some (y4, ())) y3))
        else
          (some (false, ())))
      else
        (some (false, ())))
    else
      (Option.bind (loopM (X := ((List (List Int)) × Int)) (E := ((List (List Int)) ⊕ ((List (List Int)) × Int))) (fun (x3 : ((List (List Int)) × Int)) =>
          bif (decide (x3.2 < y2.1)) then
            (Option.bind (m29 (x.2.1, (x3.2, ()))) fun (y4 : ((List Int) × (Int × Unit))) =>
            bif (!(decide (y4.2.1 = (0 : Int)))) then
              (some (Sum.inr (Sum.inr (([] : List (List Int)), y4.2.1))))
            else
              (gd ((((List.length x3.1) + (List.length (y4.1 :: ([] : List (List Int))))) * 24) ≤ 140737488355328) (gd (((List.length x3.1) + (List.length (y4.1 :: ([] : List (List Int))))) ≤ 140737488355328) (some (Sum.inl ((x3.1 ++ (y4.1 :: ([] : List (List Int)))), (Go.IntKind.wrap .i64 (x3.2 + (1 : Int)))))))))
          else
            (some (Sum.inr (Sum.inl x3.1)))) (([] : List (List Int)), (0 : Int))) fun (y3 : ((List (List Int)) ⊕ ((List (List Int)) × Int))) =>
      Sum.elim (fun y4 =>
        bif (decide ((2 : Int) = (0 : Int))) then
          (bif (decide ((0 : Int) = (0 : Int))) then
            (bif (!(decide ((0 : Int) = (((List.length y4) : Nat) : Int)))) then
              (some (false, ()))
            else
              (Option.bind (loopM (X := Int) (E := (Unit ⊕ Bool)) (fun (x5 : Int) =>
                  bif (decide (x5 < (0 : Int))) then
                    (none)
                  else
                    (some (Sum.inr (Sum.inl ())))) (0 : Int)) fun (y5 : (Unit ⊕ Bool)) =>
              Sum.elim (fun y6 =>
                some (true, ())) (fun y6 =>
                some (y6, ())) y5))
          else
            (some (false, ())))
        else
          (some (false, ()))) (fun y4 =>
        bif (decide ((2 : Int) = (0 : Int))) then
          (bif (decide (y4.2 = (0 : Int))) then
            (bif (!(decide ((0 : Int) = (((List.length y4.1) : Nat) : Int)))) then
              (some (false, ()))
            else
              (Option.bind (loopM (X := Int) (E := (Unit ⊕ Bool)) (fun (x5 : Int) =>
                  bif (decide (x5 < (0 : Int))) then
                    (none)
                  else
                    (some (Sum.inr (Sum.inl ())))) (0 : Int)) fun (y5 : (Unit ⊕ Bool)) =>
              Sum.elim (fun y6 =>
                some (true, ())) (fun y6 =>
                some (y6, ())) y5))
          else
            (some (false, ())))
        else
          (some (false, ()))) y3))
  else
    (Option.bind (loopM (X := ((List (List Int)) × Int)) (E := ((List (List Int)) ⊕ ((List (List Int)) × Int))) (fun (x2 : ((List (List Int)) × Int)) =>
        bif (decide (x2.2 < y1.1)) then
          (Option.bind (m29 (x.1, (x2.2, ()))) fun (y3 : ((List Int) × (Int × Unit))) =>
          bif (!(decide (y3.2.1 = (0 : Int)))) then
            (some (Sum.inr (Sum.inr (([] : List (List Int)), y3.2.1))))
          else
            (gd ((((List.length x2.1) + (List.length (y3.1 :: ([] : List (List Int))))) * 24) ≤ 140737488355328) (gd (((List.length x2.1) + (List.length (y3.1 :: ([] : List (List Int))))) ≤ 140737488355328) (some (Sum.inl ((x2.1 ++ (y3.1 :: ([] : List (List Int)))), (Go.IntKind.wrap .i64 (x2.2 + (1 : Int)))))))))
        else
          (some (Sum.inr (Sum.inl x2.1)))) (([] : List (List Int)), (0 : Int))) fun (y2 : ((List (List Int)) ⊕ ((List (List Int)) × Int))) =>
    Sum.elim (fun y3 =>
      Option.bind (m22 (x.2.1, ())) fun (y4 : (Int × Unit)) =>
      bif (decide (y4.1 = (0 : Int))) then
        (bif (decide ((0 : Int) = (0 : Int))) then
          (bif (decide ((2 : Int) = (0 : Int))) then
            (bif (!(decide ((((List.length y3) : Nat) : Int) = (0 : Int)))) then
              (some (false, ()))
            else
              (Option.bind (loopM (X := Int) (E := (Unit ⊕ Bool)) (fun (x5 : Int) =>
                  bif (decide (x5 < (((List.length y3) : Nat) : Int))) then
                    (gd ((0 : Int) ≤ x5) (gd (x5 < (((List.length y3) : Nat) : Int)) (gd ((Int.toNat x5) < (List.length y3)) (none))))
                  else
                    (some (Sum.inr (Sum.inl ())))) (0 : Int)) fun (y5 : (Unit ⊕ Bool)) =>
              Sum.elim (fun y6 =>
                some (true, ())) (fun y6 =>
                some (y6, ())) y5))
          else
            (some (false, ())))
        else
          (some (false, ())))
      else
        (Option.bind (loopM (X := ((List (List Int)) × Int)) (E := ((List (List Int)) ⊕ ((List (List Int)) × Int))) (fun (x5 : ((List (List Int)) × Int)) =>
            bif (decide (x5.2 < y4.1)) then
              (Option.bind (m29 (x.2.1, (x5.2, ()))) fun (y6 : ((List Int) × (Int × Unit))) =>
              bif (!(decide (y6.2.1 = (0 : Int)))) then
                (some (Sum.inr (Sum.inr (([] : List (List Int)), y6.2.1))))
              else
                (gd ((((List.length x5.1) + (List.length (y6.1 :: ([] : List (List Int))))) * 24) ≤ 140737488355328) (gd (((List.length x5.1) + (List.length (y6.1 :: ([] : List (List Int))))) ≤ 140737488355328) (some (Sum.inl ((x5.1 ++ (y6.1 :: ([] : List (List Int)))), (Go.IntKind.wrap .i64 (x5.2 + (1 : Int)))))))))
            else
              (some (Sum.inr (Sum.inl x5.1)))) (([] : List (List Int)), (0 : Int))) fun (y5 : ((List (List Int)) ⊕ ((List (List Int)) × Int))) =>
        Sum.elim (fun y6 =>
          bif (decide ((0 : Int) = (0 : Int))) then
            (bif (decide ((0 : Int) = (0 : Int))) then
              (bif (!(decide ((((List.length y3) : Nat) : Int) = (((List.length y6) : Nat) : Int)))) then
                (some (false, ()))
              else
                (Option.bind (loopM (X := Int) (E := (Unit ⊕ Bool)) (fun (x7 : Int) =>
                    bif (decide (x7 < (((List.length y3) : Nat) : Int))) then
                      (gd ((0 : Int) ≤ x7) (gd (x7 < (((List.length y3) : Nat) : Int)) (gd ((Int.toNat x7) < (List.length y3)) (gd ((0 : Int) ≤ x7) (gd (x7 < (((List.length y6) : Nat) : Int)) (gd ((Int.toNat x7) < (List.length y6)) (Option.bind (m51 ((List.getD y3 (Int.toNat x7) ([] : List Int)), ((List.getD y6 (Int.toNat x7) ([] : List Int)), ()))) fun (y8 : (Bool × Unit)) =>
                                  bif (!y8.1) then
                                    (some (Sum.inr (Sum.inr false)))
                                  else
                                    (some (Sum.inl (Go.IntKind.wrap .i64 (x7 + (1 : Int))))))))))))
                    else
                      (some (Sum.inr (Sum.inl ())))) (0 : Int)) fun (y7 : (Unit ⊕ Bool)) =>
                Sum.elim (fun y8 =>
                  some (true, ())) (fun y8 =>
                  some (y8, ())) y7))
            else
              (some (false, ())))
          else
            (some (false, ()))) (fun y6 =>
          bif (decide ((0 : Int) = (0 : Int))) then
            (bif (decide (y6.2 = (0 : Int))) then
              (bif (!(decide ((((List.length y3) : Nat) : Int) = (((List.length y6.1) : Nat) : Int)))) then
                (some (false, ()))
              else
                (Option.bind (loopM (X := Int) (E := (Unit ⊕ Bool)) (fun (x7 : Int) =>
                    bif (decide (x7 < (((List.length y3) : Nat) : Int))) then
                      (gd ((0 : Int) ≤ x7) (gd (x7 < (((List.length y3) : Nat) : Int)) (gd ((Int.toNat x7) < (List.length y3)) (gd ((0 : Int) ≤ x7) (gd (x7 < (((List.length y6.1) : Nat) : Int)) (Option.bind (m51 ((List.getD y3 (Int.toNat x7) ([] : List Int)), ((List.getD y6.1 (Int.toNat x7) ([] : List Int)), ()))) fun (y8 : (Bool × Unit)) =>
                                bif (!y8.1) then
                                  (some (Sum.inr (Sum.inr false)))
                                else
                                  (some (Sum.inl (Go.IntKind.wrap .i64 (x7 + (1 : Int)))))))))))
                    else
                      (some (Sum.inr (Sum.inl ())))) (0 : Int)) fun (y7 : (Unit ⊕ Bool)) =>
                Sum.elim (fun y8 =>
                  some (true, ())) (fun y8 =>
                  some (y8, ())) y7))
            else
              (some (false, ())))
          else
            (some (false, ()))) y5)) (fun y3 =>
      Option.bind (m22 (x.2.1, ())) fun (y4 : (Int × Unit)) =>
      bif (decide (y4.1 = (0 : Int))) then
        (bif (decide (y3.2 = (0 : Int))) then
          (bif (decide ((2 : Int) = (0 : Int))) then
            (bif (!(decide ((((List.length y3.1) : Nat) : Int) = (0 : Int)))) then
              (some (false, ()))
            else
              (Option.bind (loopM (X := Int) (E := (Unit ⊕ Bool)) (fun (x5 : Int) =>
                  bif (decide (x5 < (((List.length y3.1) : Nat) : Int))) then
                    (gd ((0 : Int) ≤ x5) (gd (x5 < (((List.length y3.1) : Nat) : Int)) (none)))
                  else
                    (some (Sum.inr (Sum.inl ())))) (0 : Int)) fun (y5 : (Unit ⊕ Bool)) =>
              Sum.elim (fun y6 =>
                some (true, ())) (fun y6 =>
                some (y6, ())) y5))
          else
            (some (false, ())))
        else
          (some (false, ())))
      else
        (Option.bind (loopM (X := ((List (List Int)) × Int)) (E := ((List (List Int)) ⊕ ((List (List Int)) × Int))) (fun (x5 : ((List (List Int)) × Int)) =>
            bif (decide (x5.2 < y4.1)) then
              (Option.bind (m29 (x.2.1, (x5.2, ()))) fun (y6 : ((List Int) × (Int × Unit))) =>
              bif (!(decide (y6.2.1 = (0 : Int)))) then
                (some (Sum.inr (Sum.inr (([] : List (List Int)), y6.2.1))))
              else
                (gd ((((List.length x5.1) + (List.length (y6.1 :: ([] : List (List Int))))) * 24) ≤ 140737488355328) (gd (((List.length x5.1) + (List.length (y6.1 :: ([] : List (List Int))))) ≤ 140737488355328) (some (Sum.inl ((x5.1 ++ (y6.1 :: ([] : List (List Int)))), (Go.IntKind.wrap .i64 (x5.2 + (1 : Int)))))))))
            else
              (some (Sum.inr (Sum.inl x5.1)))) (([] : List (List Int)), (0 : Int))) fun (y5 : ((List (List Int)) ⊕ ((List (List Int)) × Int))) =>
        Sum.elim (fun y6 =>
          bif (decide (y3.2 = (0 : Int))) then
            (bif (decide ((0 : Int) = (0 : Int))) then
              (bif (!(decide ((((List.length y3.1) : Nat) : Int) = (((List.length y6) : Nat) : Int)))) then
                (some (false, ()))
              else
                (Option.bind (loopM (X := Int) (E := (Unit ⊕ Bool)) (fun (x7 : Int) =>
                    bif (decide (x7 < (((List.length y3.1) : Nat) : Int))) then
                      (gd ((0 : Int) ≤ x7) (gd (x7 < (((List.length y3.1) : Nat) : Int)) (gd ((0 : Int) ≤ x7) (gd (x7 < (((List.length y6) : Nat) : Int)) (gd ((Int.toNat x7) < (List.length y6)) (Option.bind (m51 ((List.getD y3.1 (Int.toNat x7) ([] : List Int)), ((List.getD y6 (Int.toNat x7) ([] : List Int)), ()))) fun (y8 : (Bool × Unit)) =>
                                bif (!y8.1) then
                                  (some (Sum.inr (Sum.inr false)))
                                else
                                  (some (Sum.inl (Go.IntKind.wrap .i64 (x7 + (1 : Int)))))))))))
                    else
                      (some (Sum.inr (Sum.inl ())))) (0 : Int)) fun (y7 : (Unit ⊕ Bool)) =>
                Sum.elim (fun y8 =>
                  some (true, ())) (fun y8 =>
                  some (y8, ())) y7))
            else
              (some (false, ())))
          else
            (some (false, ()))) (fun y6 =>
          bif (decide (y3.2 = (0 : Int))) then
            (bif (decide (y6.2 = (0 : Int))) then
              (bif (!(decide ((((List.length y3.1) : Nat) : Int) = (((List.length y6.1) : Nat) : Int)))) then
                (some (false, ()))
              else
                (Option.bind (loopM (X := Int) (E := (Unit ⊕ Bool)) (fun (x7 : Int) =>
                    bif (decide (x7 < (((List.length y3.1) : Nat) : Int))) then
                      (gd ((0 : Int) ≤ x7) (gd (x7 < (((List.length y3.1) : Nat) : Int)) (gd ((0 : Int) ≤ x7) (gd (x7 < (((List.length y6.1) : Nat) : Int)) (Option.bind (m51 ((List.getD y3.1 (Int.toNat x7) ([] : List Int)), ((List.getD y6.1 (Int.toNat x7) ([] : List Int)), ()))) fun (y8 : (Bool × Unit)) =>
                              bif (!y8.1) then
                                (some (Sum.inr (Sum.inr false)))
                              else
                                (some (Sum.inl (Go.IntKind.wrap .i64 (x7 + (1 : Int))))))))))
                    else
                      (some (Sum.inr (Sum.inl ())))) (0 : Int)) fun (y7 : (Unit ⊕ Bool)) =>
                Sum.elim (fun y8 =>
                  some (true, ())) (fun y8 =>
                  some (y8, ())) y7))
            else
              (some (false, ())))
          else
            (some (false, ()))) y5)) y2)

noncomputable def i27_17 : ID := aInl Try.prog (envOf [(22, ⟨[(false, (.rp (.pair (.sl (.sl (.int .u8))) (.pair (.sl .bool) (.pair .bool (.pair .bool (.pair (.int .i64) (.pair (.int .i64) (.sl (.pair (.int .i64) (.sl (.int .u8))))))))))))], [(false, (.int .i64))], false, m22⟩), (29, ⟨[(false, (.rp (.pair (.sl (.sl (.int .u8))) (.pair (.sl .bool) (.pair .bool (.pair .bool (.pair (.int .i64) (.pair (.int .i64) (.sl (.pair (.int .i64) (.sl (.int .u8)))))))))))), (false, (.int .i64))], [(false, (.sl (.int .u8))), (false, (.int .i64))], false, m29⟩)] [] [] []) ⟨[(1000, ⟨[.slot 5 (.v 32 (.sl (.int .u8)) false), .slot 16 (.d false (.int .i64) true)], [], [(some 0, [.slot 5 (.v 32 (.sl (.int .u8)) false)]), (none, [.slot 2 (.d false (.sl (.sl (.int .u8))) true), .slot 3 (.d false (.int .i64) true)])], none⟩), (2000, ⟨[.slot 5 (.v 32 (.sl (.int .u8)) false), .slot 16 (.d false (.int .i64) true)], [], [(some 0, [.slot 5 (.v 32 (.sl (.int .u8)) false)]), (none, [.slot 2 (.d false (.sl (.sl (.int .u8))) true), .slot 3 (.d false (.int .i64) true)])], none⟩)], []⟩ Try.f17
noncomputable def i27_50 : ID := aInl Try.prog (envOf [(51, ⟨[(false, (.sl (.int .u8))), (false, (.sl (.int .u8)))], [(false, .bool)], false, m51⟩)] [] [] []) ⟨[], []⟩ Try.f50
noncomputable def i27_49 : ID := aInl Try.prog (envOf [] [] [] [(50, i27_50)]) ⟨[(1000, ⟨[.slot 17 (.d false (.int .i64) true)], [], [(some 0, []), (none, [.slot 6 (.d false .bool true)])], none⟩), (2000, ⟨[.slot 17 (.d false (.int .i64) true)], [], [(some 0, []), (none, [.slot 6 (.d false .bool true)])], none⟩), (3000, ⟨[.slot 17 (.d false (.int .i64) true)], [], [(some 0, []), (none, [.slot 6 (.d false .bool true)])], none⟩)], []⟩ Try.f49
noncomputable def r27 : PDen [(false, (.rp (.pair (.sl (.sl (.int .u8))) (.pair (.sl .bool) (.pair .bool (.pair .bool (.pair (.int .i64) (.pair (.int .i64) (.sl (.pair (.int .i64) (.sl (.int .u8)))))))))))), (false, (.rp (.pair (.sl (.sl (.int .u8))) (.pair (.sl .bool) (.pair .bool (.pair .bool (.pair (.int .i64) (.pair (.int .i64) (.sl (.pair (.int .i64) (.sl (.int .u8))))))))))))] → Option (PDen [(false, .bool)]) := fun x => afunCI Try.prog (envOf [] [] [] [(17, i27_17), (49, i27_49)]) ⟨[], []⟩ Try.f27 [some 24, some 24] [(false, (.rp (.pair (.sl (.sl (.int .u8))) (.pair (.sl .bool) (.pair .bool (.pair .bool (.pair (.int .i64) (.pair (.int .i64) (.sl (.pair (.int .i64) (.sl (.int .u8)))))))))))), (false, (.rp (.pair (.sl (.sl (.int .u8))) (.pair (.sl .bool) (.pair .bool (.pair .bool (.pair (.int .i64) (.pair (.int .i64) (.sl (.pair (.int .i64) (.sl (.int .u8))))))))))))] [(false, .bool)] x
theorem r27_eq : r27 = m27 := by kernel_rfl

theorem i27_17_sound : i27_17.Sound Try.prog 17 := aInl_sound' (envOf_sound (CSs.cons c22 (CSs.cons c29 (CSs.nil))) (HDs.nil) (IDs.nil)) Try.follows (f := 17) (fn := Try.f17) Try.func17 (by kernel_rfl) (by kernel_rfl)
theorem i27_50_sound : i27_50.Sound Try.prog 50 := aInl_sound' (envOf_sound (CSs.cons c51 (CSs.nil)) (HDs.nil) (IDs.nil)) Try.follows (f := 50) (fn := Try.f50) Try.func50 (by kernel_rfl) (by kernel_rfl)
theorem i27_49_sound : i27_49.Sound Try.prog 49 := aInl_sound' (envOf_sound (CSs.nil) (HDs.nil) (IDs.cons i27_50_sound (IDs.nil))) Try.follows (f := 49) (fn := Try.f49) Try.func49 (by kernel_rfl) (by kernel_rfl)
theorem c27 : CIc.Sound Try.prog 27 ⟨[some 24, some 24], [(false, (.rp (.pair (.sl (.sl (.int .u8))) (.pair (.sl .bool) (.pair .bool (.pair .bool (.pair (.int .i64) (.pair (.int .i64) (.sl (.pair (.int .i64) (.sl (.int .u8)))))))))))), (false, (.rp (.pair (.sl (.sl (.int .u8))) (.pair (.sl .bool) (.pair .bool (.pair .bool (.pair (.int .i64) (.pair (.int .i64) (.sl (.pair (.int .i64) (.sl (.int .u8))))))))))))], [(false, .bool)], m27⟩ := afunCI_sound' (envOf_sound (CSs.nil) (HDs.nil) (IDs.cons i27_17_sound (IDs.cons i27_49_sound (IDs.nil)))) rfl Try.follows (f := 27) (fn := Try.f27) Try.func27 (by kernel_rfl) (by kernel_rfl) r27_eq
end Go.Proofs.Ytmengjdjjnhajaa
end

section
/- What it is for two sectors, two images, to be the same. -/
namespace Go.Proofs.Ytmengjdjjnhajaa
open Go Go.Proofs.AM

theorem lists_eq {α : Type} (z : α) {p q : List α} (hl : p.length = q.length) (h : ∀ j, j < p.length → p.getD j z = q.getD j z) : p = q := by
  apply List.ext_getElem?
  intro j
  by_cases hj : j < p.length
  · have := h j hj
    rw [List.getD_eq_getElem?_getD, List.getD_eq_getElem?_getD, List.getElem?_eq_getElem hj, List.getElem?_eq_getElem (by omega)] at this
    rw [List.getElem?_eq_getElem hj, List.getElem?_eq_getElem (by omega)]
    simpa using this
  · rw [List.getElem?_eq_none (by omega), List.getElem?_eq_none (by omega)]

theorem m51_eq (p q : Pg) (hp : p.length ≤ 1000000) : m51 (p, (q, ())) = some (decide (p = q), ()) := by
  apply eq_of_Ok
  unfold m51
  refine Ok.ncond (fun h => ?_) fun h => ?_
  · have h : ¬ ((p.length : Nat) : Int) = ((q.length : Nat) : Int) := h
    refine Ok.some ?_
    rw [decide_eq_false (fun e => h (by rw [e]))]
  · have h : ((p.length : Nat) : Int) = ((q.length : Nat) : Int) := h
    have hl : p.length = q.length := by omega
    refine Ok.bind (S := fun e => (e = .inl () ∧ p = q) ∨ (e = .inr false ∧ p ≠ q)) (Ok.loop p.length (fun i x => x = (i : Int) ∧ ∀ j, j < i → p.getD j 0 = q.getD j 0) ⟨rfl, fun j hj => by omega⟩ ?_) ?_
    · rintro i _ hi ⟨rfl, hall⟩
      refine Ok.cond (fun hlt => ?_) fun hge => Ok.inr (.inl ⟨rfl, lists_eq 0 hl fun j hj => hall j (by have hge : ¬ (i : Int) < ((p.length : Nat) : Int) := hge; omega)⟩)
      have hlt : (i : Int) < ((p.length : Nat) : Int) := hlt
      dsimp only
      refine Ok.gd (by omega) (Ok.gd hlt (Ok.gd (by omega) (Ok.gd (by omega) ?_)))
      rw [Int.toNat_natCast]
      refine Ok.ncond (fun hne => Ok.inr (.inr ⟨rfl, fun e => hne (by rw [e])⟩)) fun heq => Ok.inl ⟨by omega, ?_, fun j hj => ?_⟩
      · rw [wrap64 (by omega) (by omega)]; rfl
      · by_cases hji : j < i
        · exact hall j hji
        · obtain rfl : j = i := by omega
          exact heq
    · rintro _ (⟨rfl, hpq⟩ | ⟨rfl, hpq⟩)
      · exact Ok.some (by rw [decide_eq_true hpq])
      · exact Ok.some (by rw [decide_eq_false hpq])

/-- Bytes. -/
def Bytes (p : Pg) : Prop := ∀ n ∈ p, 0 ≤ n ∧ n ≤ 255

theorem strOfNums_inj {p q : Pg} (hp : Bytes p) (hq : Bytes q) (h : strOfNums p = strOfNums q) : p = q := by
  have h1 : (strOfNums p).data.toList = (strOfNums q).data.toList := by rw [h]
  rw [strOfNums_data, strOfNums_data] at h1
  clear h
  induction p generalizing q with
  | nil =>
    cases q with
    | nil => rfl
    | cons y q => simp at h1
  | cons x p ih =>
    cases q with
    | nil => simp at h1
    | cons y q =>
      simp only [List.map_cons, List.cons.injEq] at h1
      have hx := hp x (by simp)
      have hy := hq y (by simp)
      have e : x = y := by
        have := congrArg UInt8.toNat h1.1
        simp only [UInt8.toNat_ofNat'] at this
        omega
      rw [e, ih (fun n hn => hp n (by simp [hn])) (fun n hn => hq n (by simp [hn])) h1.2]

theorem streq_eq {p q : Pg} (hp : Bytes p) (hq : Bytes q) : streq (strOfNums p) (strOfNums q) = decide (p = q) := by
  by_cases h : p = q
  · subst h
    rw [streq_self]; simp
  · rw [decide_eq_false h]
    unfold streq
    rw [← str_beq]
    rw [Bool.eq_false_iff]
    intro hb
    have hb := beq_iff_eq.1 hb
    rw [ByteArray.toList_eq, ByteArray.toList_eq] at hb
    refine h (strOfNums_inj hp hq ?_)
    have : ∀ {a b : ByteArray}, a.data.toList = b.data.toList → a = b := by
      rintro ⟨a⟩ ⟨b⟩ h
      simpa using h
    exact this hb

theorem m30_eq {p q : Pg} (hp : Bytes p) (hq : Bytes q) : m30 (p, (q, ())) = some (decide (p = q), ()) := by
  show some (streq (strOfNums p) (strOfNums q), ()) = _
  rw [streq_eq hp hq]

/-- All sectors of a disk that is on, none hurt, as its image tells them. -/
theorem image_loop {Y : Type} {n : Nat} {d : Dk} (h : DOk n d) (hw : Well d) (hg : d.2.2.1 = false) (f : List Pg × Int → Option ((List Pg × Int) ⊕ (List Pg ⊕ Y))) (g : Pg × (Int × Unit) → Y)
    (hf : ∀ l i, f (l, i) = (bif (decide (i < (n : Int))) then
        (Option.bind (m29 (d, (i, ()))) fun (y3 : ((List Int) × (Int × Unit))) =>
          bif (!(decide (y3.2.1 = (0 : Int)))) then
            (some (Sum.inr (Sum.inr (g y3))))
          else
            (gd ((((List.length l) + (List.length (y3.1 :: ([] : List (List Int))))) * 24) ≤ 140737488355328) (gd (((List.length l) + (List.length (y3.1 :: ([] : List (List Int))))) ≤ 140737488355328) (some (Sum.inl ((l ++ (y3.1 :: ([] : List (List Int)))), (Go.IntKind.wrap .i64 (i + (1 : Int)))))))))
      else
        (some (Sum.inr (Sum.inl l))))) : loopM f ([], 0) = some (.inl d.1) := by
  have n1 := h.n1
  have hs := h.ss
  apply eq_of_Ok
  refine Ok.loop n (fun i x => x = (d.1.take i, (i : Int))) rfl ?_
  rintro i _ hi rfl
  rw [hf]
  refine Ok.cond (fun hlt => ?_) fun hge => ?_
  · have hlt : (i : Int) < n := hlt
    have hrd : rea d (i : Int) = (d.1.getD i [], (0, ())) := by
      unfold rea
      rw [if_neg (by rw [hg]; simp), if_neg (fun hh => hh ⟨by omega, by omega⟩), Int.toNat_natCast, if_neg (by rw [hw]; simp)]
    refine Ok.bind (S := fun y => y = (d.1.getD i [], (0, ()))) (Ok.of ((m29_eq h _).trans (by rw [hrd])) rfl) ?_
    rintro _ rfl
    refine Ok.ncond (fun hc => absurd rfl hc) fun _ => ?_
    have hlen : (d.1.take i).length = i := by simp; omega
    refine Ok.gd (by simp; omega) (Ok.gd (by simp; omega) (Ok.inl ⟨by omega, ?_⟩))
    rw [take_succ _ _ (by omega), wrap64 (by omega) (by omega)]
    rfl
  · obtain rfl : i = n := by omega
    refine Ok.inr ?_
    rw [List.take_of_length_le (by omega)]

theorem pg_at {n : Nat} {d : Dk} (h : DOk n d) (k : Nat) (hk : k < n) : (d.1.getD k []).length = 256 := by
  have := h.ss
  rw [List.getD_eq_getElem?_getD, List.getElem?_eq_getElem (by omega)]
  exact h.pg _ (List.getElem_mem _)

/-- Two disks that are on, no sector of theirs hurt: the same where their sectors are. -/
theorem m27_eq {n : Nat} {d e : Dk} (hd : DOk n d) (he : DOk n e) (wd : Well d) (we : Well e) (gd' : d.2.2.1 = false) (ge : e.2.2.1 = false) : m27 (d, (e, ())) = some (decide (d.1 = e.1), ()) := by
  have n0 := hd.n0
  have n1 := hd.n1
  have sd := hd.ss
  have se := he.ss
  have pd := pg_at hd
  apply eq_of_Ok
  unfold m27
  refine Ok.bind (S := fun y => y = ((n : Int), ())) (Ok.of (m22_eq hd) rfl) ?_
  rintro _ rfl
  refine Ok.cond (fun h => by have h : (n : Int) = 0 := h; omega) fun _ => ?_
  refine Ok.bind (S := fun y => y = .inl d.1) (Ok.of (image_loop hd wd gd' _ (fun y => (([] : List (List Int)), y.2.1)) (fun _ _ => rfl)) rfl) ?_
  rintro _ rfl
  dsimp only [Sum.elim_inl]
  refine Ok.bind (S := fun y => y = ((n : Int), ())) (Ok.of (m22_eq he) rfl) ?_
  rintro _ rfl
  refine Ok.cond (fun h => by have h : (n : Int) = 0 := h; omega) fun _ => ?_
  refine Ok.bind (S := fun y => y = .inl e.1) (Ok.of (image_loop he we ge _ (fun y => (([] : List (List Int)), y.2.1)) (fun _ _ => rfl)) rfl) ?_
  rintro _ rfl
  dsimp only [Sum.elim_inl]
  refine Ok.cond (fun _ => ?_) fun h => by first | exact absurd rfl h | exact absurd trivial h
  refine Ok.cond (fun _ => ?_) fun h => by first | exact absurd rfl h | exact absurd trivial h
  refine Ok.ncond (fun h => by have h : ¬ ((d.1.length : Nat) : Int) = ((e.1.length : Nat) : Int) := h; omega) fun _ => ?_
  refine Ok.bind (S := fun s => (s = .inl () ∧ d.1 = e.1) ∨ (s = .inr false ∧ d.1 ≠ e.1)) (Ok.loop n (fun i x => x = (i : Int) ∧ ∀ j, j < i → d.1.getD j [] = e.1.getD j []) ⟨rfl, fun j hj => by omega⟩ ?_) ?_
  · rintro i _ hi ⟨rfl, hall⟩
    refine Ok.cond (fun hlt => ?_) fun hge => Ok.inr (.inl ⟨rfl, lists_eq [] (by omega) fun j hj => hall j (by have hge : ¬ (i : Int) < ((d.1.length : Nat) : Int) := hge; omega)⟩)
    have hlt : (i : Int) < ((d.1.length : Nat) : Int) := hlt
    refine Ok.gd (by omega) (Ok.gd hlt (Ok.gd (by omega) (Ok.gd (by omega) (Ok.gd (by omega) (Ok.gd (by omega) ?_)))))
    rw [Int.toNat_natCast]
    refine Ok.bind (S := fun y => y = (decide (d.1.getD i [] = e.1.getD i []), ())) (Ok.of (m51_eq _ _ (by rw [pd i (by omega)]; omega)) rfl) ?_
    rintro _ rfl
    refine Ok.ncond (fun hne => Ok.inr (.inr ⟨rfl, fun h => hne (by rw [h])⟩)) fun heq => Ok.inl ⟨by omega, ?_, fun j hj => ?_⟩
    · rw [wrap64 (by omega) (by omega)]; rfl
    · by_cases hji : j < i
      · exact hall j hji
      · obtain rfl : j = i := by omega
        exact heq
  · rintro _ (⟨rfl, hpq⟩ | ⟨rfl, hpq⟩)
    · exact Ok.some (by rw [decide_eq_true hpq])
    · exact Ok.some (by rw [decide_eq_false hpq])

theorem m46_eq (xs : List Bool) (h : xs.length ≤ 1000000) : m46 (xs, ()) = some (xs, (xs, ())) := by
  unfold m46
  dsimp only
  rw [gd_pos (by simp; omega), gd_pos (by simp; omega)]
  by_cases h0 : ((xs.length : Nat) : Int) = 0
  · obtain rfl : xs = [] := List.length_eq_zero_iff.1 (by omega)
    simp [both]
  · rw [decide_eq_false h0]
    simp [both]

theorem m47_eq (xs : List (Int × Pg)) (h : xs.length ≤ 1000000) : m47 (xs, ()) = some (xs, (xs, ())) := by
  unfold m47
  dsimp only
  rw [gd_pos (by simp; omega), gd_pos (by simp; omega)]
  by_cases h0 : ((xs.length : Nat) : Int) = 0
  · obtain rfl : xs = [] := List.length_eq_zero_iff.1 (by omega)
    simp [both]
  · rw [decide_eq_false h0]
    simp [both]
end Go.Proofs.Ytmengjdjjnhajaa
end

section
/- What is done with both disks, operation by operation. -/
namespace Go.Proofs.Ytmengjdjjnhajaa
open Go Go.Proofs.AM

/-- The same disk, but for how many writes are left: it counts only where there is a cut. -/
def lf (d : Dk) (a : Int) : Dk := (d.1, (d.2.1, (d.2.2.1, (d.2.2.2.1, (a, d.2.2.2.2.2)))))

theorem rea_lf (d : Dk) (a s : Int) : rea (lf d a) s = rea d s := rfl

theorem DOk.lf {n : Nat} {d : Dk} (h : DOk n d) (a : Int) : DOk n (lf d a) := h.same rfl rfl

def cutD (d : Dk) (k : Int) : Dk := (d.1, (d.2.1, (d.2.2.1, (decide (k ≥ 0), (if 0 > k then 0 else k, d.2.2.2.2.2)))))
def resD (d : Dk) (a : Int) : Dk := (d.1, (d.2.1, (false, (false, (a, d.2.2.2.2.2)))))
def hrt (d : Dk) (s : Int) : Dk × (Int × Unit) := if 0 ≤ s ∧ s < (d.1.length : Int) then ((d.1, (d.2.1.set s.toNat true, d.2.2)), (0, ())) else (d, (1, ()))

theorem m42_eq (w : Dk) (k : Int) : m42 (w, (k, ())) = some (cutD w k, ()) := rfl
theorem m43_eq (w : Dk) : m43 (w, ()) = some (resD w w.2.2.2.2.1, ()) := rfl
theorem m41_eq (w : Dk) : m41 (w, ()) = some (if w.2.2.1 = true then 8 else 0, ()) := by
  unfold m41
  cases h : w.2.2.1 <;> simp
theorem m32_eq {n : Nat} {d : Dk} (h : DOk n d) : m32 (d, ()) = some (if d.2.2.1 = true then 8 else 0, ()) := by
  unfold m32
  rw [m35_eq h]
  rfl
theorem m21_eq {n : Nat} {d : Dk} (h : DOk n d) : m21 (d, ()) = some (d.2.2.2.2.2.1, ()) := by
  unfold m21
  rw [m34_eq h]
  rfl
theorem m33_eq {n : Nat} {d : Dk} (h : DOk n d) (s : Int) : m33 (d, (s, ())) = some (hrt d s) := by
  have h1 := h.ss
  have h2 := h.hs
  apply eq_of_Ok
  unfold m33 hrt
  refine Ok.bind (S := fun y => y = (false, ())) (Ok.of (m34_eq h) rfl) ?_
  rintro _ rfl
  refine Ok.condb (fun hc => absurd hc (by simp)) fun _ => ?_
  refine Ok.bind (S := fun y => y = (decide (0 ≤ s ∧ s < (d.1.length : Int)), ())) (Ok.of (there_eq _ s) rfl) ?_
  rintro _ rfl
  refine Ok.ncond (fun hn => ?_) fun hth => ?_
  · rw [if_neg hn]; exact Ok.some rfl
  · rw [if_pos hth]
    dsimp only
    exact Ok.gd hth.1 (Ok.gd (by omega) (Ok.gd (by omega) (Ok.some rfl)))
theorem m44_eq {n : Nat} {d : Dk} (h : DOk n d) (s : Int) : m44 (d, (s, ())) = some (hrt d s) := by
  have h1 := h.ss
  have h2 := h.hs
  apply eq_of_Ok
  unfold m44 hrt
  refine Ok.bind (S := fun y => y = (decide (0 ≤ s ∧ s < (d.1.length : Int)), ())) (Ok.of (thereR_eq _ s) rfl) ?_
  rintro _ rfl
  refine Ok.ncond (fun hn => ?_) fun hth => ?_
  · rw [if_neg hn]; exact Ok.some rfl
  · rw [if_pos hth]
    dsimp only
    exact Ok.gd hth.1 (Ok.gd (by omega) (Ok.gd (by omega) (Ok.some rfl)))

/-- Both disks: the same but for what is left, where there is no cut; so many writes at most are told. -/
structure Two (n k : Nat) (d : Dk) (a : Int) : Prop where
  ok : DOk n d
  cut : d.2.2.2.1 = true → a = d.2.2.2.2.1
  log : d.2.2.2.2.2.2.length ≤ k
  pgs : ∀ e ∈ d.2.2.2.2.2.2, e.2.length = 256

theorem Two.more {n k : Nat} {d : Dk} {a : Int} (h : Two n k d a) : Two n (k + 1) d a := ⟨h.ok, h.cut, by have := h.log; omega, h.pgs⟩

theorem Two.put_pgs {n k : Nat} {d : Dk} {a : Int} (h : Two n k d a) (s : Int) {b : Pg} (hb : b.length = 256) (left : Int) : ∀ e ∈ (put id d s b left).2.2.2.2.2.2, e.2.length = 256 := by
  intro e he
  have he : e ∈ d.2.2.2.2.2.2 ++ [(s, b)] := he
  rcases List.mem_append.1 he with he | he
  · exact h.pgs e he
  · obtain rfl : e = (s, b) := by simpa using he
    exact hb

theorem last_id {l : List (Int × Pg)} (h : l.length ≤ 1024) : last l = l := by
  unfold last
  rw [show l.length - 1024 = 0 by omega]
  rfl

theorem put_len (d : Dk) (s : Int) (b : Pg) (left : Int) : (put id d s b left).2.2.2.2.2.2.length = d.2.2.2.2.2.2.length + 1 := by
  show (d.2.2.2.2.2.2 ++ [(s, b)]).length = _
  simp

theorem Two.write {n k : Nat} {d : Dk} {a : Int} (h : Two n k d a) (hk : k < 1000) (s : Int) (b : Pg) :
    ∃ d' a' e, m11 (d, (s, (b, ()))) = some (d', (e, ())) ∧ m15 (lf d a, (s, (b, ()))) = some (lf d' a', (e, ())) ∧ Two n (k + 1) d' a' := by
  have hl := h.log
  have e11 := m11_eq h.ok (by omega) s b
  have e15 := m15_eq (h.ok.lf a) (show d.2.2.2.2.2.2.length ≤ 1000000 by omega) s b
  have hput : ∀ left, put last d s b left = put id d s b left := fun left => by
    unfold put
    rw [last_id (by simp; omega)]
    rfl
  rw [e11, e15]
  unfold wrt
  show ∃ d' a' e, some (if d.2.2.1 = true then _ else if ¬ (0 ≤ s ∧ s < (d.1.length : Int)) then _ else if ¬ b.length = 256 then _ else if d.2.2.2.1 = true then _ else _) = some (d', (e, ())) ∧
    some (if d.2.2.1 = true then _ else if ¬ (0 ≤ s ∧ s < (d.1.length : Int)) then _ else if ¬ b.length = 256 then _ else if d.2.2.2.1 = true then _ else _) = some (lf d' a', (e, ())) ∧ _
  by_cases h1 : d.2.2.1 = true
  · rw [if_pos h1, if_pos h1]; exact ⟨_, a, _, rfl, rfl, h.more⟩
  rw [if_neg h1, if_neg h1]
  by_cases h2 : ¬ (0 ≤ s ∧ s < (d.1.length : Int))
  · rw [if_pos h2, if_pos h2]; exact ⟨_, a, _, rfl, rfl, h.more⟩
  rw [if_neg h2, if_neg h2]
  by_cases h3 : ¬ b.length = 256
  · rw [if_pos h3, if_pos h3]; exact ⟨_, a, _, rfl, rfl, h.more⟩
  rw [if_neg h3, if_neg h3]
  have hb : b.length = 256 := by omega
  by_cases h4 : d.2.2.2.1 = true
  · rw [if_pos h4, if_pos h4]
    have ha := h.cut h4
    subst ha
    by_cases h5 : d.2.2.2.2.1 = 0
    · rw [if_pos h5, if_pos (show (lf d d.2.2.2.2.1).2.2.2.2.1 = 0 from h5)]
      exact ⟨_, d.2.2.2.2.1, _, rfl, rfl, ⟨h.ok.same rfl rfl, fun _ => rfl, by show d.2.2.2.2.2.2.length ≤ _; omega, h.pgs⟩⟩
    · rw [if_neg h5, if_neg (show ¬ (lf d d.2.2.2.2.1).2.2.2.2.1 = 0 from h5), hput]
      exact ⟨_, IntKind.wrap .i64 (d.2.2.2.2.1 - 1), _, rfl, rfl, ⟨h.ok.put id s hb _, fun _ => rfl, by rw [put_len]; omega, h.put_pgs s hb _⟩⟩
  · rw [if_neg h4, if_neg h4, hput]
    exact ⟨_, a, _, rfl, rfl, ⟨h.ok.put id s hb _, fun hc => absurd hc h4, by rw [put_len]; omega, h.put_pgs s hb _⟩⟩

theorem DOk.hrt {n : Nat} {d : Dk} (h : DOk n d) (s : Int) : DOk n (hrt d s).1 := by
  unfold Ytmengjdjjnhajaa.hrt
  split
  · exact ⟨h.n0, h.n1, h.ss, by show (d.2.1.set _ _).length = n; simp [h.hs], h.pg⟩
  · exact h

theorem Two.hurt {n k : Nat} {d : Dk} {a : Int} (h : Two n k d a) (s : Int) :
    ∃ d' e, m33 (d, (s, ())) = some (d', (e, ())) ∧ m44 (lf d a, (s, ())) = some (lf d' a, (e, ())) ∧ Two n (k + 1) d' a := by
  rw [m33_eq h.ok, m44_eq (h.ok.lf a)]
  have ho := h.ok.hrt s
  unfold hrt at ho ⊢
  show ∃ d' e, some (if 0 ≤ s ∧ s < (d.1.length : Int) then _ else _) = some (d', (e, ())) ∧ some (if 0 ≤ s ∧ s < (d.1.length : Int) then _ else _) = some (lf d' a, (e, ())) ∧ _
  by_cases h1 : 0 ≤ s ∧ s < (d.1.length : Int)
  · rw [if_pos h1, if_pos h1]
    rw [if_pos h1] at ho
    exact ⟨_, _, rfl, rfl, ⟨ho, h.cut, by have := h.log; show d.2.2.2.2.2.2.length ≤ _; omega, h.pgs⟩⟩
  · rw [if_neg h1, if_neg h1]
    exact ⟨_, _, rfl, rfl, h.more⟩

/-- What an image's loop comes to: all sectors, or the first that cannot be read. -/
def Img (n : Nat) (d : Dk) (e : List Pg ⊕ (List Pg × Int)) : Prop :=
  (e = .inl d.1 ∧ ∀ j, j < n → (rea d (j : Int)).2.1 = 0) ∨ ∃ i, i < n ∧ (∀ j, j < i → (rea d (j : Int)).2.1 = 0) ∧ (rea d (i : Int)).2.1 ≠ 0 ∧ e = .inr ([], (rea d (i : Int)).2.1)

theorem Img.one {n : Nat} {d : Dk} {e e' : List Pg ⊕ (List Pg × Int)} (h : Img n d e) (h' : Img n d e') : e = e' := by
  rcases h with ⟨rfl, h⟩ | ⟨i, hi, h1, h2, rfl⟩ <;> rcases h' with ⟨rfl, h'⟩ | ⟨i', hi', h1', h2', rfl⟩
  · rfl
  · exact absurd (h i' hi') h2'
  · exact absurd (h' i hi) h2
  · have : i = i' := by
      rcases Nat.lt_trichotomy i i' with hlt | rfl | hlt
      · exact absurd (h1' i hlt) h2
      · rfl
      · exact absurd (h1 i' hlt) h2'
    subst this
    rfl

theorem rea_ok {d : Dk} {i : Nat} (h : (rea d (i : Int)).2.1 = 0) : rea d (i : Int) = (d.1.getD i [], (0, ())) := by
  unfold rea at h ⊢
  split at h
  · simp at h
  split at h
  · simp at h
  split at h
  · simp at h
  rename_i a b c
  rw [if_neg a, if_neg b, if_neg c]
  rfl

theorem img_loop {n : Nat} {d : Dk} (h : DOk n d) (f : List Pg × Int → Option ((List Pg × Int) ⊕ (List Pg ⊕ (List Pg × Int)))) (m : Int) (hm : m = n)
    (hf : ∀ l i, f (l, i) = (bif (decide (i < m)) then
        (Option.bind (m29 (d, (i, ()))) fun (y3 : ((List Int) × (Int × Unit))) =>
          bif (!(decide (y3.2.1 = (0 : Int)))) then
            (some (Sum.inr (Sum.inr (([] : List (List Int)), y3.2.1))))
          else
            (gd ((((List.length l) + (List.length (y3.1 :: ([] : List (List Int))))) * 24) ≤ 140737488355328) (gd (((List.length l) + (List.length (y3.1 :: ([] : List (List Int))))) ≤ 140737488355328) (some (Sum.inl ((l ++ (y3.1 :: ([] : List (List Int)))), (Go.IntKind.wrap .i64 (i + (1 : Int)))))))))
      else
        (some (Sum.inr (Sum.inl l))))) : Ok (loopM f ([], 0)) (Img n d) := by
  have n1 := h.n1
  have hs := h.ss
  subst hm
  refine Ok.loop n (fun i x => x = (d.1.take i, (i : Int)) ∧ ∀ j, j < i → (rea d (j : Int)).2.1 = 0) ⟨rfl, fun j hj => by omega⟩ ?_
  rintro i _ hi ⟨rfl, hall⟩
  rw [hf]
  refine Ok.cond (fun hlt => ?_) fun hge => ?_
  · have hlt : (i : Int) < n := hlt
    refine Ok.bind (S := fun y => y = rea d (i : Int)) (Ok.of (m29_eq h _) rfl) ?_
    rintro _ rfl
    refine Ok.ncond (fun hc => Ok.inr (.inr ⟨i, by omega, hall, hc, rfl⟩)) fun hc => ?_
    rw [rea_ok hc]
    have hlen : (d.1.take i).length = i := by simp; omega
    refine Ok.gd (by simp; omega) (Ok.gd (by simp; omega) (Ok.inl ⟨by omega, ?_, fun j hj => ?_⟩))
    · rw [take_succ _ _ (by omega), wrap64 (by omega) (by omega)]
      rfl
    · by_cases hji : j < i
      · exact hall j hji
      · obtain rfl : j = i := by omega
        exact hc
  · obtain rfl : i = n := by omega
    refine Ok.inr (.inl ⟨?_, hall⟩)
    rw [List.take_of_length_le (by omega)]

theorem m18_img {n : Nat} {d : Dk} (h : DOk n d) : Ok (m18 (d, ())) (fun y => ∃ e, Img n d e ∧ y = e.elim (fun l => (l, (0, ()))) (fun p => (p.1, (p.2, ())))) := by
  unfold m18
  refine Ok.bind (S := Img n d) ?_ ?_
  · have n1 := h.n1
    have hs := h.ss
    refine Ok.loop n (fun i x => x = (d.1.take i, (i : Int)) ∧ ∀ j, j < i → (rea d (j : Int)).2.1 = 0) ⟨rfl, fun j hj => by omega⟩ ?_
    rintro i _ hi ⟨rfl, hall⟩
    refine Ok.bind (S := fun y => y = ((n : Int), ())) (Ok.of (m13_eq h) rfl) ?_
    rintro _ rfl
    refine Ok.cond (fun hlt => ?_) fun hge => ?_
    · have hlt : (i : Int) < n := hlt
      refine Ok.bind (S := fun y => y = rea d (i : Int)) (Ok.of (m40_eq h _) rfl) ?_
      rintro _ rfl
      refine Ok.ncond (fun hc => Ok.inr (.inr ⟨i, by omega, hall, hc, rfl⟩)) fun hc => ?_
      rw [rea_ok hc]
      have hlen : (d.1.take i).length = i := by simp; omega
      dsimp only
      refine Ok.gd (by simp; omega) (Ok.gd (by simp; omega) (Ok.inl ⟨by omega, ?_, fun j hj => ?_⟩))
      · rw [take_succ _ _ (by omega), wrap64 (by omega) (by omega)]
        rfl
      · by_cases hji : j < i
        · exact hall j hji
        · obtain rfl : j = i := by omega
          exact hc
    · have hge : ¬ (i : Int) < n := hge
      obtain rfl : i = n := by omega
      refine Ok.inr (.inl ⟨?_, hall⟩)
      show Sum.inl (d.1.take i) = _
      rw [List.take_of_length_le (by omega)]
  · intro e he
    refine Ok.elim (fun l hl => ?_) fun p hp => ?_
    · subst hl; exact Ok.some ⟨_, he, rfl⟩
    · subst hp; exact Ok.some ⟨_, he, rfl⟩

theorem Two.cutD {n k : Nat} {d : Dk} {a : Int} (h : Two n k d a) (c : Int) : Two n (k + 1) (cutD d c) (if 0 > c then 0 else c) :=
  ⟨h.ok.same rfl rfl, fun _ => rfl, by have := h.log; show d.2.2.2.2.2.2.length ≤ _; omega, h.pgs⟩

theorem Two.resD {n k : Nat} {d : Dk} {a : Int} (h : Two n k d a) : Two n (k + 1) (resD d 0) a :=
  ⟨h.ok.same rfl rfl, fun hc => by simp [Ytmengjdjjnhajaa.resD] at hc, by have := h.log; show d.2.2.2.2.2.2.length ≤ _; omega, h.pgs⟩

/-- The bytes of an operation, whatever they are. -/
theorem m12_some (o : Int × (Int × (List Int × Bool))) (hb : o.2.2.1.length ≤ 140737488355328) : ∃ b, m12 (o, ()) = some (b, ()) := by
  obtain ⟨A, S, B, short⟩ := o
  have hb : B.length ≤ 140737488355328 := hb
  cases short with
  | true => exact ⟨B, rfl⟩
  | false =>
    by_cases h : B.length = 0
    · obtain rfl : B = [] := List.length_eq_zero_iff.1 h
      exact ⟨[], rfl⟩
    · exact ⟨full B, m12_eq A S B (by omega) hb⟩

/-- A clone is the disk. -/
theorem clone_loop {n : Nat} {d : Dk} (h : DOk n d) (f : Int × Dk → Option ((Int × Dk) ⊕ Dk))
    (hf : ∀ i l, f (i, (l, d.2)) = (bif (decide (i < (((List.length d.1) : Nat) : Int))) then
        (gd ((0 : Int) ≤ i) (gd (i < (((List.length d.1) : Nat) : Int)) (gd ((Int.toNat i) < (List.length d.1)) (Option.bind (m37 ((List.getD d.1 (Int.toNat i) ([] : List Int)), ())) fun (y9 : ((List Int) × Unit)) =>
              gd ((((List.length l) + (List.length (y9.1 :: ([] : List (List Int))))) * 24) ≤ 140737488355328) (gd (((List.length l) + (List.length (y9.1 :: ([] : List (List Int))))) ≤ 140737488355328) (some (Sum.inl ((Go.IntKind.wrap .i64 (i + (1 : Int))), ((l ++ (y9.1 :: ([] : List (List Int)))), d.2)))))))))
      else
        (some (Sum.inr (l, d.2))))) : loopM f (0, ([], d.2)) = some d := by
  have n1 := h.n1
  have hs := h.ss
  apply eq_of_Ok
  refine Ok.loop n (fun i x => x = ((i : Int), (d.1.take i, d.2))) rfl ?_
  rintro i _ hi rfl
  rw [hf]
  refine Ok.cond (fun hlt => ?_) fun hge => ?_
  · refine Ok.gd (by omega) (Ok.gd hlt (Ok.gd (by omega) ?_))
    rw [Int.toNat_natCast]
    have := pg_len h i
    refine Ok.bind (S := fun y => y = (d.1.getD i [], ())) (Ok.of (m37_eq _ (by omega)) rfl) ?_
    rintro _ rfl
    have hlen : (d.1.take i).length = i := by simp; omega
    refine Ok.gd (by simp; omega) (Ok.gd (by simp; omega) (Ok.inl ⟨by omega, ?_⟩))
    rw [take_succ _ _ (by omega), wrap64 (by omega) (by omega)]
    rfl
  · refine Ok.inr ?_
    rw [List.take_of_length_le (by omega)]
end Go.Proofs.Ytmengjdjjnhajaa
end

section
/- Whatever is done with a disk: the plain law of DiskDoes. -/
namespace Go.Proofs.Ytmengjdjjnhajaa
open Go Go.Proofs.AM

/-- Both logs, held against each other. -/
theorem log_loop {log : List (Int × Pg)} (hl : log.length ≤ 120) (hp : ∀ e ∈ log, e.2.length = 256) (f : Int × (Bool × Int) → Option ((Int × (Bool × Int)) ⊕ ((Bool × Int) ⊕ (Bool × (Int × Unit)))))
    (hf : ∀ i b k, f (i, (b, k)) = (bif decide (i < ((log.length : Nat) : Int)) then
        gd ((0 : Int) ≤ i) (gd (i < ((log.length : Nat) : Int)) (gd (i.toNat < log.length) (Option.bind (m37 ((log.getD i.toNat ((0 : Int), ([] : List Int))).2, ())) fun y13 =>
          bif decide (k ≥ (((Int.toNat ((log.length : Nat) : Int) - Int.toNat (0 : Int)) : Nat) : Int)) then some (Sum.inr (Sum.inr (false, (k, ()))))
          else gd ((0 : Int) ≤ k) (gd (k < (((Int.toNat ((log.length : Nat) : Int) - Int.toNat (0 : Int)) : Nat) : Int)) (gd (Int.toNat (0 : Int) + k.toNat < log.length)
            (bif !decide ((log.getD (Int.toNat (0 : Int) + k.toNat) ((0 : Int), ([] : List Int))).1 = (log.getD i.toNat ((0 : Int), ([] : List Int))).1) then some (Sum.inr (Sum.inr (false, (k, ()))))
             else gd ((0 : Int) ≤ k) (gd (k < (((Int.toNat ((log.length : Nat) : Int) - Int.toNat (0 : Int)) : Nat) : Int)) (gd (Int.toNat (0 : Int) + k.toNat < log.length)
              (Option.bind (m30 ((log.getD (Int.toNat (0 : Int) + k.toNat) ((0 : Int), ([] : List Int))).2, (y13.1, ()))) fun y14 =>
                bif !y14.1 then some (Sum.inr (Sum.inr (false, (k, ())))) else some (Sum.inl (IntKind.wrap .i64 (i + 1), (b, IntKind.wrap .i64 (k + 1)))))))))))))
      else some (Sum.inr (Sum.inl (b, k))))) : Ok (loopM f (0, (false, 0))) (fun e => e = .inl (false, ((log.length : Nat) : Int))) := by
  refine Ok.loop log.length (fun i x => x = ((i : Int), (false, (i : Int)))) rfl ?_
  rintro i _ hi rfl
  rw [hf]
  refine Ok.cond (fun hlt => ?_) fun hge => ?_
  · have hp' : (log.getD i ((0 : Int), ([] : List Int))).2.length = 256 := by
      rw [List.getD_eq_getElem?_getD, List.getElem?_eq_getElem (by omega)]
      exact hp _ (List.getElem_mem _)
    refine Ok.gd (by omega) (Ok.gd hlt (Ok.gd (by omega) ?_))
    simp only [Int.toNat_natCast, Int.toNat_zero, Nat.zero_add, Nat.sub_zero]
    refine Ok.bind (S := fun y => y = ((log.getD i ((0 : Int), ([] : List Int))).2, ())) (Ok.of (m37_eq _ (by omega)) rfl) ?_
    rintro _ rfl
    refine Ok.cond (fun h => by omega) fun _ => ?_
    refine Ok.gd (by omega) (Ok.gd (by omega) (Ok.gd (by omega) ?_))
    refine Ok.ncond (fun h => by first | exact absurd rfl h | exact absurd trivial h) fun _ => ?_
    refine Ok.gd (by omega) (Ok.gd (by omega) (Ok.gd (by omega) ?_))
    refine Ok.bind (S := fun y => y = (true, ())) (Ok.of (m30_self _) rfl) ?_
    rintro _ rfl
    refine Ok.condb (fun h => absurd h (by simp)) fun _ => Ok.inl ⟨by omega, ?_⟩
    rw [wrap64 (by omega) (by omega)]
    rfl
  · obtain rfl : i = log.length := by omega
    exact Ok.inr rfl

set_option maxHeartbeats 4000000 in
theorem DiskDoes_pure : ∀ x : AM.PDen [(false, (.int .i64)), (false, (.sl (.pair (.int .i64) (.pair (.int .i64) (.pair (.sl (.int .u8)) .bool)))))], AM.PWf _ x → AM.PSz _ x → m4 x = some (true, ()) := by
  suffices T : ∀ (N : Int) (ws : List (Int × (Int × (Pg × Bool)))), ws.length ≤ 140737488355328 → (∀ o ∈ ws, o.2.2.1.length ≤ 140737488355328) → Ok (m4 (N, (ws, ()))) (fun r => r = (true, ())) by
    rintro ⟨N, ws, ⟨⟩⟩ hw hz
    have hs : List.length ws ≤ 140737488351232 ∧ ∀ o ∈ ws, True ∧ (True ∧ ((List.length o.2.2.1 ≤ 140737488351232 ∧ ∀ y ∈ (show List Int from o.2.2.1), True) ∧ True)) := hz.2.1
    exact eq_of_Ok (T N ws (by omega) (fun o ho => by have := (hs.2 o ho).2.2.1.1; omega))
  intro N ws hws hlens
  unfold m4
  refine Ok.bind (S := fun y => y = (true, ())) (Ok.of m7_eq rfl) ?_
  rintro _ rfl
  refine Ok.condb (fun h => absurd h (by simp)) fun _ => ?_
  dsimp only
  refine Ok.cond (fun h1 => ?_) fun h1 => ?_
  · refine Ok.cond (fun _ => ?_) fun h => absurd h1 h
    exact Ok.ncond (fun h => by first | exact absurd rfl h | exact absurd trivial h) fun _ => Ok.some rfl
  refine Ok.cond (fun h2 => ?_) fun h2 => ?_
  · refine Ok.cond (fun h => absurd h h1) fun _ => ?_
    refine Ok.cond (fun _ => ?_) fun h => absurd h2 h
    exact Ok.ncond (fun h => by first | exact absurd rfl h | exact absurd trivial h) fun _ => Ok.some rfl
  obtain ⟨n, rfl⟩ := Int.eq_ofNat_of_zero_le (show (0 : Int) ≤ N by omega)
  have hn0 : 0 < n := by omega
  have hn1 : n ≤ 8192 := by omega
  have o0 : DOk n (d0 n) := d0_ok hn0 hn1
  refine Ok.gd (by omega) (Ok.gd (by omega) (Ok.gd (by omega) ?_))
  refine Ok.bind (S := fun y => y = d0 n) (Ok.of (new_loop n (by omega) (n : Int) rfl (List.replicate n false, (false, (false, (0, (0, []))))) _ (fun _ _ => rfl)) rfl) ?_
  rintro _ rfl
  refine Ok.cond (fun h => absurd h h1) fun _ => ?_
  refine Ok.cond (fun h => absurd h h2) fun _ => ?_
  refine Ok.gd (by omega) (Ok.gd (by omega) (Ok.gd (by omega) ?_))
  refine Ok.bind (S := fun y => y = d0 n) (Ok.of (new_loop n (by omega) (n : Int) rfl (List.replicate n false, (false, (false, (0, (0, []))))) _ (fun _ _ => rfl)) rfl) ?_
  rintro _ rfl
  refine Ok.ncond (fun h => by first | exact absurd rfl h | exact absurd trivial h) fun _ => ?_
  refine Ok.cond (fun _ => Ok.some rfl) fun h64 => ?_
  obtain ⟨m, hm⟩ : ∃ m : Nat, (if (120 : Int) < ((ws.length : Nat) : Int) then (120 : Int) else ((ws.length : Nat) : Int)) = m ∧ m ≤ 120 ∧ m ≤ ws.length := by
    by_cases h : (120 : Int) < ((ws.length : Nat) : Int)
    · exact ⟨120, by rw [if_pos h]; rfl, by omega, by omega⟩
    · exact ⟨ws.length, by rw [if_neg h], by omega, by omega⟩
  obtain ⟨hm, hm1, hm2⟩ := hm
  simp only [hm]
  have hl : List.take (Int.toNat (m : Int) - Int.toNat 0) (List.drop (Int.toNat 0) ws) = ws.take m := by simp
  simp only [hl]
  have hlen : (ws.take m).length = m := by simp; omega
  refine Ok.gd (by omega) (Ok.gd (by omega) ?_)
  have start : Two n 0 (d0 n) 0 := ⟨o0, fun _ => rfl, Nat.le_refl _, fun e he => by simp [d0] at he⟩
  let st : Nat → Dk → Int → Unit × (List Pg × (List Bool × (Bool × (Bool × (Int × (Int × (List (Int × Pg) × (Int × Dk)))))))) := fun i d a => ((), (d.1, (d.2.1, (d.2.2.1, (d.2.2.2.1, (d.2.2.2.2.1, (d.2.2.2.2.2.1, (d.2.2.2.2.2.2, ((i : Int), lf d a)))))))))
  let fin : Dk → Int → Unit × (List Pg × (List Bool × (Bool × (Bool × (Int × (Int × (List (Int × Pg) × Dk))))))) := fun d a => ((), (d.1, (d.2.1, (d.2.2.1, (d.2.2.2.1, (d.2.2.2.2.1, (d.2.2.2.2.2.1, (d.2.2.2.2.2.2, lf d a))))))))
  refine Ok.bind (S := fun e => ∃ d a, e = .inl (fin d a) ∧ Two n 120 d a) (Ok.loop m (fun i x => ∃ d a, x = st i d a ∧ Two n i d a) ⟨_, 0, rfl, start⟩ ?_) ?_
  · rintro i _ hi ⟨d, a, rfl, h2⟩
    refine Ok.cond (fun hlt => ?_) fun hge => ?_
    · have hlt : (i : Int) < (((ws.take m).length : Nat) : Int) := hlt
      rw [hlen] at hlt
      have hi2 : i < m := by omega
      have tl : ∀ d' a', Two n (i + 1) d' a' → Ok (Option.bind (m14 (d', ())) fun (y8 : (Bool × Unit)) =>
          bif (!(bif y8.1 then (!(lf d' a').2.2.1) else (!(!(lf d' a').2.2.1)))) then
            (some (Sum.inr (Sum.inr (false, lf d' a'))))
          else
            (Option.bind (m21 (d', ())) fun (y9 : (Int × Unit)) =>
            bif (!(decide (y9.1 = (lf d' a').2.2.2.2.2.1))) then
              (some (Sum.inr (Sum.inr (false, lf d' a'))))
            else
              (Option.bind (m22 (d', ())) fun (y10 : (Int × Unit)) =>
              Option.bind (m13 (lf d' a', ())) fun (y11 : (Int × Unit)) =>
              bif (!(decide (y10.1 = y11.1))) then
                (some (Sum.inr (Sum.inr (false, lf d' a'))))
              else
                (some (Sum.inl ((), (d'.1, (d'.2.1, (d'.2.2.1, (d'.2.2.2.1, (d'.2.2.2.2.1, (d'.2.2.2.2.2.1, (d'.2.2.2.2.2.2, ((Go.IntKind.wrap .i64 ((i : Int) + (1 : Int))), lf d' a'))))))))))))))
          (fun s => s.elim (fun y => i < m ∧ ∃ d a, y = st (i + 1) d a ∧ Two n (i + 1) d a) (fun e => ∃ d a, e = .inl (fin d a) ∧ Two n 120 d a)) := by
        intro d' a' h
        refine Ok.bind (S := fun y => y = (!d'.2.2.1, ())) (Ok.of (m14_eq h.ok) rfl) ?_
        rintro _ rfl
        refine Ok.condb (fun hc => ?_) fun _ => ?_
        · have hc : (!(bif (!d'.2.2.1) then (!d'.2.2.1) else (!(!d'.2.2.1)))) = true := hc
          cases hx : d'.2.2.1 <;> simp [hx] at hc
        refine Ok.bind (S := fun y => y = (d'.2.2.2.2.2.1, ())) (Ok.of (m21_eq h.ok) rfl) ?_
        rintro _ rfl
        refine Ok.ncond (fun hc => absurd rfl hc) fun _ => ?_
        refine Ok.bind (S := fun y => y = ((n : Int), ())) (Ok.of (m22_eq h.ok) rfl) ?_
        rintro _ rfl
        refine Ok.bind (S := fun y => y = ((n : Int), ())) (Ok.of (m13_eq (h.ok.lf a')) rfl) ?_
        rintro _ rfl
        refine Ok.ncond (fun hc => absurd rfl hc) fun _ => Ok.inl ⟨hi2, d', a', ?_, h⟩
        rw [wrap64 (by omega) (by omega)]
        rfl
      obtain ⟨o, ho⟩ : ∃ o, (ws.take m).getD (Int.toNat (i : Int)) (0, (0, ([], false))) = o := ⟨_, rfl⟩
      have hmem : o ∈ ws := by
        rw [← ho, Int.toNat_natCast, List.getD_eq_getElem?_getD, List.getElem?_eq_getElem (by omega)]
        exact List.mem_of_mem_take (List.getElem_mem _)
      have hbl := hlens o hmem
      dsimp only [st]
      simp only [ho]
      refine Ok.gd (by omega) (Ok.gd (by rw [hlen]; omega) ?_)
      have hrd := m29_eq h2.ok o.2.1
      have hrd' : m40 (lf d a, (o.2.1, ())) = some (rea d o.2.1) := m40_eq (h2.ok.lf a) o.2.1
      refine Ok.cond (fun _ => ?_) fun _ => ?_
      · refine Ok.bind (S := fun y => y = rea d o.2.1) (Ok.of hrd rfl) ?_
        rintro _ rfl
        refine Ok.bind (S := fun y => y = rea d o.2.1) (Ok.of hrd' rfl) ?_
        rintro _ rfl
        refine Ok.bind (S := fun y => y = (true, ())) (Ok.of (m30_self _) rfl) ?_
        rintro _ rfl
        refine Ok.condb (fun _ => ?_) fun h => absurd h (by simp)
        refine Ok.ncond (fun hc => absurd rfl hc) fun _ => ?_
        exact tl d a h2.more
      refine Ok.cond (fun _ => ?_) fun _ => ?_
      · obtain ⟨b, hb⟩ := m12_some o hbl
        obtain ⟨d', a', e, e1, e2, h'⟩ := h2.write (by omega) o.2.1 b
        refine Ok.bind (S := fun y => y = (b, ())) (Ok.of hb rfl) ?_
        rintro _ rfl
        refine Ok.bind (S := fun y => y = (d', (e, ()))) (Ok.of e1 rfl) ?_
        rintro _ rfl
        refine Ok.bind (S := fun y => y = (b, ())) (Ok.of hb rfl) ?_
        rintro _ rfl
        refine Ok.bind (S := fun y => y = (lf d' a', (e, ()))) (Ok.of e2 rfl) ?_
        rintro _ rfl
        refine Ok.ncond (fun hc => absurd rfl hc) fun _ => ?_
        exact tl d' a' h'
      refine Ok.cond (fun _ => ?_) fun _ => ?_
      · refine Ok.bind (S := fun y => y = (if d.2.2.1 = true then 8 else 0, ())) (Ok.of (m32_eq h2.ok) rfl) ?_
        rintro _ rfl
        refine Ok.bind (S := fun y => y = (if d.2.2.1 = true then 8 else 0, ())) (Ok.of (m41_eq (lf d a)) rfl) ?_
        rintro _ rfl
        refine Ok.ncond (fun hc => absurd rfl hc) fun _ => ?_
        exact tl d a h2.more
      refine Ok.cond (fun _ => ?_) fun _ => ?_
      · refine Ok.bind (S := fun y => y = (cutD d o.2.1, ())) (Ok.of (m10_eq h2.ok o.2.1) rfl) ?_
        rintro _ rfl
        refine Ok.bind (S := fun y => y = (cutD (lf d a) o.2.1, ())) (Ok.of (m42_eq _ _) rfl) ?_
        rintro _ rfl
        exact tl (cutD d o.2.1) _ (h2.cutD o.2.1)
      refine Ok.cond (fun _ => ?_) fun _ => ?_
      · refine Ok.bind (S := fun y => y = (resD d 0, ())) (Ok.of (m16_eq h2.ok) rfl) ?_
        rintro _ rfl
        refine Ok.bind (S := fun y => y = (lf (resD d 0) a, ())) (Ok.of (m43_eq (lf d a)) rfl) ?_
        rintro _ rfl
        exact tl (resD d 0) a h2.resD
      refine Ok.cond (fun _ => ?_) fun _ => ?_
      · obtain ⟨d', e, e1, e2, h'⟩ := h2.hurt o.2.1
        refine Ok.bind (S := fun y => y = (d', (e, ()))) (Ok.of e1 rfl) ?_
        rintro _ rfl
        refine Ok.bind (S := fun y => y = (lf d' a, (e, ()))) (Ok.of e2 rfl) ?_
        rintro _ rfl
        refine Ok.ncond (fun hc => absurd rfl hc) fun _ => ?_
        exact tl d' a h'
      refine Ok.cond (fun _ => ?_) fun _ => ?_
      · have hlog := h2.log
        refine Ok.bind (S := fun y => y = (false, ())) (Ok.of (m34_eq h2.ok) rfl) ?_
        rintro _ rfl
        refine Ok.condb (fun h => absurd h (by simp)) fun _ => ?_
        refine Ok.bind (S := fun y => y = (d.2.1, (d.2.1, ()))) (Ok.of (m46_eq _ (by have := h2.ok.hs; omega)) rfl) ?_
        rintro _ rfl
        refine Ok.bind (S := fun y => y = (d.2.2.2.2.2.2, (d.2.2.2.2.2.2, ()))) (Ok.of (m47_eq _ (by omega)) rfl) ?_
        rintro _ rfl
        refine Ok.bind (S := fun y => d = y) (Ok.of (clone_loop h2.ok _ (fun _ _ => rfl)) rfl) ?_
        rintro _ rfl
        have h28 : ∀ N, N = 256 → m28 ([99], (((N : Nat) : Int), ())) = some (cyc [99] N, ()) := fun N hN => by
          have h := m28_ok [99] N (by decide) (by omega) (by simp; omega) (.inl (by simp; omega)) (by omega)
          have e : [(99 : Int)].length * N = N := Nat.one_mul N
          exact h.trans (by rw [e])
        have h28 := h28 256 rfl
        refine Ok.bind (S := fun y => y = (cyc [99] 256, ())) (Ok.of h28 rfl) ?_
        rintro _ rfl
        refine Ok.bind (S := fun _ => True) (Ok.of (m11_eq h2.ok (by omega) 0 (cyc [99] 256)) trivial) ?_
        rintro _ _
        exact tl d a h2.more
      · exact tl d a h2.more
    · have hge : ¬ (i : Int) < (((ws.take m).length : Nat) : Int) := hge
      rw [hlen] at hge
      obtain rfl : i = m := by omega
      exact Ok.inr ⟨d, a, rfl, ⟨h2.ok, h2.cut, by have := h2.log; omega, h2.pgs⟩⟩
  rintro _ ⟨d, a, rfl, h2⟩
  have hlog := h2.log
  have hoff : (if (Go.IntKind.wrap .i64 ((((List.length d.2.2.2.2.2.2) : Nat) : Int) - (1024 : Int))) > (0 : Int) then (Go.IntKind.wrap .i64 ((((List.length d.2.2.2.2.2.2) : Nat) : Int) - (1024 : Int))) else (0 : Int)) = 0 := by
    rw [wrap64 (by omega) (by omega), if_neg (by omega)]
  dsimp only [fin, lf, Sum.elim_inl]
  simp only [hoff]
  refine Ok.bind (S := fun y => y = ((n : Int), ())) (Ok.of (m22_eq h2.ok) rfl) ?_
  rintro _ rfl
  refine Ok.cond (fun h => by have h : (n : Int) = 0 := h; omega) fun _ => ?_
  have hss := h2.ok.ss
  have logs := fun f hf => log_loop hlog h2.pgs f hf
  refine Ok.bind (img_loop h2.ok _ (n : Int) rfl (fun _ _ => rfl)) ?_
  intro e he
  refine Ok.elim (fun l hl => ?_) fun p hp => ?_
  · subst hl
    refine Ok.bind (m18_img (h2.ok.lf a)) ?_
    rintro _ ⟨e', he', rfl⟩
    have he' : Img n d e' := he'
    obtain rfl := he.one he'
    have hll : l.length ≤ 1000000 := by
      rcases he with ⟨h, _⟩ | ⟨_, _, _, _, h⟩
      · obtain rfl := Sum.inl.inj h; omega
      · exact absurd h (by simp)
    dsimp only [Sum.elim_inl]
    refine Ok.cond (fun _ => ?_) fun h => absurd rfl h
    refine Ok.bind (S := fun y => y = (true, ())) (Ok.of (m19_self l hll) rfl) ?_
    rintro _ rfl
    refine Ok.condb (fun _ => ?_) fun h => absurd h (by simp)
    refine Ok.gd (by decide) (Ok.gd (by omega) (Ok.gd (by omega) ?_))
    refine Ok.bind (S := fun y => y = (false, ())) (Ok.of (m34_eq h2.ok) rfl) ?_
    rintro _ rfl
    refine Ok.condb (fun h => absurd h (by simp)) fun _ => ?_
    refine Ok.bind (logs _ (fun _ _ _ => rfl)) ?_
    rintro _ rfl
    dsimp only [Sum.elim_inl]
    refine Ok.some ?_
    rw [decide_eq_true (by simp)]
  · subst hp
    refine Ok.bind (m18_img (h2.ok.lf a)) ?_
    rintro _ ⟨e', he', rfl⟩
    have he' : Img n d e' := he'
    obtain rfl := he.one he'
    have hll : p.1.length ≤ 1000000 := by
      rcases he with ⟨h, _⟩ | ⟨_, _, _, _, h⟩
      · exact absurd h (by simp)
      · obtain rfl := Sum.inr.inj h; simp
    dsimp only [Sum.elim_inr]
    refine Ok.cond (fun _ => ?_) fun h => absurd rfl h
    refine Ok.bind (S := fun y => y = (true, ())) (Ok.of (m19_self p.1 hll) rfl) ?_
    rintro _ rfl
    refine Ok.condb (fun _ => ?_) fun h => absurd h (by simp)
    refine Ok.gd (by decide) (Ok.gd (by omega) (Ok.gd (by omega) ?_))
    refine Ok.bind (S := fun y => y = (false, ())) (Ok.of (m34_eq h2.ok) rfl) ?_
    rintro _ rfl
    refine Ok.condb (fun h => absurd h (by simp)) fun _ => ?_
    refine Ok.bind (logs _ (fun _ _ _ => rfl)) ?_
    rintro _ rfl
    dsimp only [Sum.elim_inl]
    refine Ok.some ?_
    rw [decide_eq_true (by simp)]
end Go.Proofs.Ytmengjdjjnhajaa
end
