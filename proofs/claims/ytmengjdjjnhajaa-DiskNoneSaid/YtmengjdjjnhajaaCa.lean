/- What the functions of this claim compute, each shown by the kernel, and what that comes to, with no program in sight. No condition. -/
import Derived.Test.YtmengjdjjnhajaaProg
import Derived.Test.YtmengjdjjnhajaaAmc
import Derived.Test.YtmengjdjjnhajaaAmd
import Derived.KernelRfl
import Derived.Laws.Externs
import Derived.Test.YtmengjdjjnhajaaAmb
set_option maxRecDepth 2000
set_option linter.unusedVariables false
set_option linter.unusedSimpArgs false
section
/- What the functions' contracts share. -/
namespace Go.Proofs.Ytmengjdjjnhajaa
theorem Try.follows : Try.prog.follows .mixedOrders = true := by kernel_rfl
end Go.Proofs.Ytmengjdjjnhajaa
end

section
/- What function 34 ((*slipway/disk.RAM).none) computes, by the kernel. -/
open Go Go.Proofs.AM
namespace Go.Proofs.Ytmengjdjjnhajaa

noncomputable def m34 (x : ((List (List Int)) × ((List Bool) × (Bool × (Bool × (Int × (Int × (List (Int × (List Int))))))))) × Unit) : Option (Bool × Unit) :=
  some ((decide ((((List.length x.1.1) : Nat) : Int) = (0 : Int))), ())

noncomputable def r34 : PDen [(false, (.rp (.pair (.sl (.sl (.int .u8))) (.pair (.sl .bool) (.pair .bool (.pair .bool (.pair (.int .i64) (.pair (.int .i64) (.sl (.pair (.int .i64) (.sl (.int .u8))))))))))))] → Option (PDen [(false, .bool)]) := fun x => afun Try.prog (envOf [] [] [] []) ⟨[], []⟩ Try.f34 [(false, (.rp (.pair (.sl (.sl (.int .u8))) (.pair (.sl .bool) (.pair .bool (.pair .bool (.pair (.int .i64) (.pair (.int .i64) (.sl (.pair (.int .i64) (.sl (.int .u8))))))))))))] [(false, .bool)] false x
theorem r34_eq : r34 = m34 := by kernel_rfl

theorem c34 : CS.Sound Try.prog 34 ⟨[(false, (.rp (.pair (.sl (.sl (.int .u8))) (.pair (.sl .bool) (.pair .bool (.pair .bool (.pair (.int .i64) (.pair (.int .i64) (.sl (.pair (.int .i64) (.sl (.int .u8))))))))))))], [(false, .bool)], false, m34⟩ := afun_sound' (envOf_sound (CSs.nil) (HDs.nil) (IDs.nil)) rfl Try.follows (f := 34) (fn := Try.f34) Try.func34 (by kernel_rfl) (by kernel_rfl) r34_eq
end Go.Proofs.Ytmengjdjjnhajaa
end

section
/- What function 35 ((*slipway/disk.RAM).can) computes, by the kernel. -/
open Go Go.Proofs.AM
namespace Go.Proofs.Ytmengjdjjnhajaa

noncomputable def m35 (x : ((List (List Int)) × ((List Bool) × (Bool × (Bool × (Int × (Int × (List (Int × (List Int))))))))) × Unit) : Option (Int × Unit) :=
  Option.bind (m34 (x.1, ())) fun (y1 : (Bool × Unit)) =>
  bif y1.1 then
    (some ((2 : Int), ()))
  else
    (bif x.1.2.2.1 then
      (some ((8 : Int), ()))
    else
      (some ((0 : Int), ())))

noncomputable def r35 : PDen [(false, (.rp (.pair (.sl (.sl (.int .u8))) (.pair (.sl .bool) (.pair .bool (.pair .bool (.pair (.int .i64) (.pair (.int .i64) (.sl (.pair (.int .i64) (.sl (.int .u8))))))))))))] → Option (PDen [(false, (.int .i64))]) := fun x => afun Try.prog (envOf [(34, ⟨[(false, (.rp (.pair (.sl (.sl (.int .u8))) (.pair (.sl .bool) (.pair .bool (.pair .bool (.pair (.int .i64) (.pair (.int .i64) (.sl (.pair (.int .i64) (.sl (.int .u8))))))))))))], [(false, .bool)], false, m34⟩)] [] [] []) ⟨[], []⟩ Try.f35 [(false, (.rp (.pair (.sl (.sl (.int .u8))) (.pair (.sl .bool) (.pair .bool (.pair .bool (.pair (.int .i64) (.pair (.int .i64) (.sl (.pair (.int .i64) (.sl (.int .u8))))))))))))] [(false, (.int .i64))] false x
theorem r35_eq : r35 = m35 := by kernel_rfl

theorem c35 : CS.Sound Try.prog 35 ⟨[(false, (.rp (.pair (.sl (.sl (.int .u8))) (.pair (.sl .bool) (.pair .bool (.pair .bool (.pair (.int .i64) (.pair (.int .i64) (.sl (.pair (.int .i64) (.sl (.int .u8))))))))))))], [(false, (.int .i64))], false, m35⟩ := afun_sound' (envOf_sound (CSs.cons c34 (CSs.nil)) (HDs.nil) (IDs.nil)) rfl Try.follows (f := 35) (fn := Try.f35) Try.func35 (by kernel_rfl) (by kernel_rfl) r35_eq
end Go.Proofs.Ytmengjdjjnhajaa
end

section
/- What function 14 ((*slipway/disk.RAM).On) computes, by the kernel. -/
open Go Go.Proofs.AM
namespace Go.Proofs.Ytmengjdjjnhajaa

noncomputable def m14 (x : ((List (List Int)) × ((List Bool) × (Bool × (Bool × (Int × (Int × (List (Int × (List Int))))))))) × Unit) : Option (Bool × Unit) :=
  Option.bind (m35 (x.1, ())) fun (y1 : (Int × Unit)) =>
  some ((decide (y1.1 = (0 : Int))), ())

noncomputable def r14 : PDen [(false, (.rp (.pair (.sl (.sl (.int .u8))) (.pair (.sl .bool) (.pair .bool (.pair .bool (.pair (.int .i64) (.pair (.int .i64) (.sl (.pair (.int .i64) (.sl (.int .u8))))))))))))] → Option (PDen [(false, .bool)]) := fun x => afun Try.prog (envOf [(35, ⟨[(false, (.rp (.pair (.sl (.sl (.int .u8))) (.pair (.sl .bool) (.pair .bool (.pair .bool (.pair (.int .i64) (.pair (.int .i64) (.sl (.pair (.int .i64) (.sl (.int .u8))))))))))))], [(false, (.int .i64))], false, m35⟩)] [] [] []) ⟨[], []⟩ Try.f14 [(false, (.rp (.pair (.sl (.sl (.int .u8))) (.pair (.sl .bool) (.pair .bool (.pair .bool (.pair (.int .i64) (.pair (.int .i64) (.sl (.pair (.int .i64) (.sl (.int .u8))))))))))))] [(false, .bool)] false x
theorem r14_eq : r14 = m14 := by kernel_rfl

theorem c14 : CS.Sound Try.prog 14 ⟨[(false, (.rp (.pair (.sl (.sl (.int .u8))) (.pair (.sl .bool) (.pair .bool (.pair .bool (.pair (.int .i64) (.pair (.int .i64) (.sl (.pair (.int .i64) (.sl (.int .u8))))))))))))], [(false, .bool)], false, m14⟩ := afun_sound' (envOf_sound (CSs.cons c35 (CSs.nil)) (HDs.nil) (IDs.nil)) rfl Try.follows (f := 14) (fn := Try.f14) Try.func14 (by kernel_rfl) (by kernel_rfl) r14_eq
end Go.Proofs.Ytmengjdjjnhajaa
end

section
/- What function 56 (math/bits.Mul32) computes, by the kernel. -/
open Go Go.Proofs.AM
namespace Go.Proofs.Ytmengjdjjnhajaa

noncomputable def m56 (x : Int × Int × Unit) : Option (Int × (Int × Unit)) :=
  some ((Go.IntKind.wrap .u32 (ishr .u64 (Go.IntKind.wrap .u64 ((Go.IntKind.wrap .u64 x.1) * (Go.IntKind.wrap .u64 x.2.1))) (32 : Int))), ((Go.IntKind.wrap .u32 (Go.IntKind.wrap .u64 ((Go.IntKind.wrap .u64 x.1) * (Go.IntKind.wrap .u64 x.2.1)))), ()))

noncomputable def r56 : PDen [(false, (.int .u32)), (false, (.int .u32))] → Option (PDen [(false, (.int .u32)), (false, (.int .u32))]) := fun x => afun Try.prog (envOf [] [] [] []) ⟨[], []⟩ Try.f56 [(false, (.int .u32)), (false, (.int .u32))] [(false, (.int .u32)), (false, (.int .u32))] false x
theorem r56_eq : r56 = m56 := by kernel_rfl

theorem c56 : CS.Sound Try.prog 56 ⟨[(false, (.int .u32)), (false, (.int .u32))], [(false, (.int .u32)), (false, (.int .u32))], false, m56⟩ := afun_sound' (envOf_sound (CSs.nil) (HDs.nil) (IDs.nil)) rfl Try.follows (f := 56) (fn := Try.f56) Try.func56 (by kernel_rfl) (by kernel_rfl) r56_eq
end Go.Proofs.Ytmengjdjjnhajaa
end

section
/- What function 57 (math/bits.Mul64) computes, by the kernel. -/
open Go Go.Proofs.AM
namespace Go.Proofs.Ytmengjdjjnhajaa

noncomputable def m57 (x : Int × Int × Unit) : Option (Int × (Int × Unit)) :=
  some ((Go.IntKind.wrap .u64 ((Go.IntKind.wrap .u64 ((Go.IntKind.wrap .u64 ((ishr .u64 x.1 (32 : Int)) * (ishr .u64 x.2.1 (32 : Int)))) + (ishr .u64 (Go.IntKind.wrap .u64 ((Go.IntKind.wrap .u64 ((ishr .u64 x.1 (32 : Int)) * (iand .u64 x.2.1 (4294967295 : Int)))) + (ishr .u64 (Go.IntKind.wrap .u64 ((iand .u64 x.1 (4294967295 : Int)) * (iand .u64 x.2.1 (4294967295 : Int)))) (32 : Int)))) (32 : Int)))) + (ishr .u64 (Go.IntKind.wrap .u64 ((iand .u64 (Go.IntKind.wrap .u64 ((Go.IntKind.wrap .u64 ((ishr .u64 x.1 (32 : Int)) * (iand .u64 x.2.1 (4294967295 : Int)))) + (ishr .u64 (Go.IntKind.wrap .u64 ((iand .u64 x.1 (4294967295 : Int)) * (iand .u64 x.2.1 (4294967295 : Int)))) (32 : Int)))) (4294967295 : Int)) + (Go.IntKind.wrap .u64 ((iand .u64 x.1 (4294967295 : Int)) * (ishr .u64 x.2.1 (32 : Int)))))) (32 : Int)))), ((Go.IntKind.wrap .u64 (x.1 * x.2.1)), ()))

noncomputable def r57 : PDen [(false, (.int .u64)), (false, (.int .u64))] → Option (PDen [(false, (.int .u64)), (false, (.int .u64))]) := fun x => afun Try.prog (envOf [] [] [] []) ⟨[], []⟩ Try.f57 [(false, (.int .u64)), (false, (.int .u64))] [(false, (.int .u64)), (false, (.int .u64))] false x
theorem r57_eq : r57 = m57 := by kernel_rfl

theorem c57 : CS.Sound Try.prog 57 ⟨[(false, (.int .u64)), (false, (.int .u64))], [(false, (.int .u64)), (false, (.int .u64))], false, m57⟩ := afun_sound' (envOf_sound (CSs.nil) (HDs.nil) (IDs.nil)) rfl Try.follows (f := 57) (fn := Try.f57) Try.func57 (by kernel_rfl) (by kernel_rfl) r57_eq
end Go.Proofs.Ytmengjdjjnhajaa
end

section
/- What function 52 (math/bits.Mul) computes, by the kernel. -/
open Go Go.Proofs.AM
namespace Go.Proofs.Ytmengjdjjnhajaa

noncomputable def m52 (x : Int × Int × Unit) : Option (Int × (Int × Unit)) :=
  Option.bind (m57 (x.1, (x.2.1, ()))) fun (y1 : (Int × (Int × Unit))) =>
  some (y1.1, (y1.2.1, ()))

noncomputable def r52 : PDen [(false, (.int .u64)), (false, (.int .u64))] → Option (PDen [(false, (.int .u64)), (false, (.int .u64))]) := fun x => afun Try.prog (envOf [(56, ⟨[(false, (.int .u32)), (false, (.int .u32))], [(false, (.int .u32)), (false, (.int .u32))], false, m56⟩), (57, ⟨[(false, (.int .u64)), (false, (.int .u64))], [(false, (.int .u64)), (false, (.int .u64))], false, m57⟩)] [] [] []) ⟨[], []⟩ Try.f52 [(false, (.int .u64)), (false, (.int .u64))] [(false, (.int .u64)), (false, (.int .u64))] false x
theorem r52_eq : r52 = m52 := by kernel_rfl

theorem c52 : CS.Sound Try.prog 52 ⟨[(false, (.int .u64)), (false, (.int .u64))], [(false, (.int .u64)), (false, (.int .u64))], false, m52⟩ := afun_sound' (envOf_sound (CSs.cons c56 (CSs.cons c57 (CSs.nil))) (HDs.nil) (IDs.nil)) rfl Try.follows (f := 52) (fn := Try.f52) Try.func52 (by kernel_rfl) (by kernel_rfl) r52_eq
end Go.Proofs.Ytmengjdjjnhajaa
end

section
/- The function that makes a row of whatever bytes. -/
open Go Go.Proofs.AM
namespace Go.Proofs.Ytmengjdjjnhajaa
theorem z53 : BytesAt Try.prog 53 32 5 := ⟨by kernel_rfl, fun args w => by
  rw [run_callFunc_extern Try.func53 (by kernel_rfl) (by kernel_rfl) (by kernel_rfl) (e := Extern.BytealgMakeNoZero.makeNoZero #[3] #[32]) (by kernel_rfl)]
  rfl⟩
end Go.Proofs.Ytmengjdjjnhajaa
end

section
/- What function 28 (bytes.Repeat) computes, by the kernel. -/
open Go Go.Proofs.AM
namespace Go.Proofs.Ytmengjdjjnhajaa

noncomputable def m28 (x : (List Int) × Int × Unit) : Option ((List Int) × Unit) :=
  bif (decide (x.2.1 = (0 : Int))) then
    (some (([] : List Int), ()))
  else
    (bif (decide (x.2.1 < (0 : Int))) then
      (none)
    else
      (Option.bind (m52 ((Go.IntKind.wrap .u64 (((List.length x.1) : Nat) : Int)), ((Go.IntKind.wrap .u64 x.2.1), ()))) fun (y1 : (Int × (Int × Unit))) =>
      bif (decide (y1.1 > (0 : Int))) then
        (none)
      else
        (bif (decide (y1.2.1 > (9223372036854775807 : Int))) then
          (none)
        else
          (bif (decide ((((List.length x.1) : Nat) : Int) = (0 : Int))) then
            (some (([] : List Int), ()))
          else
            (bif (decide ((Go.IntKind.wrap .i64 y1.2.1) > (8192 : Int))) then
              (if (((List.length x.1) : Nat) : Int) = (0 : Int) then
                (none)
              else
                (bif (decide ((Go.IntKind.wrap .i64 ((Go.IntKind.wrap .i64 (Int.tdiv (8192 : Int) (((List.length x.1) : Nat) : Int))) * (((List.length x.1) : Nat) : Int))) = (0 : Int))) then
                  (gd ((0 : Int) ≤ (Go.IntKind.wrap .i64 y1.2.1)) (gd ((Go.IntKind.wrap .i64 y1.2.1) ≤ (140737488355328 : Int)) (anyBytes (Go.IntKind.wrap .i64 y1.2.1) fun (u2 : List Int) =>
                      gd ((0 : Int) ≤ (Go.IntKind.wrap .i64 y1.2.1)) (gd ((Go.IntKind.wrap .i64 y1.2.1) ≤ (Go.IntKind.wrap .i64 y1.2.1)) (gd ((Go.IntKind.wrap .i64 y1.2.1) ≤ (((List.length u2) : Nat) : Int)) (Option.bind (loopM (X := (Int × (List Int))) (E := (List Int)) (fun (x3 : (Int × (List Int))) =>
                                  bif (decide (x3.1 < (Go.IntKind.wrap .i64 y1.2.1))) then
                                    (gd ((0 : Int) ≤ x3.1) (gd (x3.1 ≤ (((Int.toNat (Go.IntKind.wrap .i64 y1.2.1)) : Nat) : Int)) (gd ((((Int.toNat (Go.IntKind.wrap .i64 y1.2.1)) : Nat) : Int) ≤ (((Int.toNat (Go.IntKind.wrap .i64 y1.2.1)) : Nat) : Int)) (gd ((0 : Int) ≤ (if (((List.length x.1) : Nat) : Int) < x3.1 then (((List.length x.1) : Nat) : Int) else x3.1)) (gd ((if (((List.length x.1) : Nat) : Int) < x3.1 then (((List.length x.1) : Nat) : Int) else x3.1) ≤ (((Int.toNat (Go.IntKind.wrap .i64 y1.2.1)) : Nat) : Int)) (some (Sum.inl ((Go.IntKind.wrap .i64 (x3.1 + (((min (List.length (List.take ((Int.toNat (if (((List.length x.1) : Nat) : Int) < x3.1 then (((List.length x.1) : Nat) : Int) else x3.1)) - (Int.toNat (0 : Int))) (List.drop (0 + (Int.toNat (0 : Int))) x3.2))) ((Int.toNat (((Int.toNat (Go.IntKind.wrap .i64 y1.2.1)) : Nat) : Int)) - (Int.toNat x3.1))) : Nat) : Int))), (((List.take (0 + (Int.toNat x3.1)) x3.2) ++ (List.take ((Int.toNat (((Int.toNat (Go.IntKind.wrap .i64 y1.2.1)) : Nat) : Int)) - (Int.toNat x3.1)) (List.take ((Int.toNat (if (((List.length x.1) : Nat) : Int) < x3.1 then (((List.length x.1) : Nat) : Int) else x3.1)) - (Int.toNat (0 : Int))) (List.drop (0 + (Int.toNat (0 : Int))) x3.2)))) ++ (List.drop ((0 + (Int.toNat x3.1)) + (min (List.length (List.take ((Int.toNat (if (((List.length x.1) : Nat) : Int) < x3.1 then (((List.length x.1) : Nat) : Int) else x3.1)) - (Int.toNat (0 : Int))) (List.drop (0 + (Int.toNat (0 : Int))) x3.2))) ((Int.toNat (((Int.toNat (Go.IntKind.wrap .i64 y1.2.1)) : Nat) : Int)) - (Int.toNat x3.1)))) x3.2))))))))))
                                  else
                                    (some (Sum.inr x3.2))) ((((min (List.length x.1) (Int.toNat (Go.IntKind.wrap .i64 y1.2.1))) : Nat) : Int), (((List.take 0 u2) ++ (List.take (Int.toNat (Go.IntKind.wrap .i64 y1.2.1)) x.1)) ++ (List.drop (0 + (min (List.length x.1) (Int.toNat (Go.IntKind.wrap .i64 y1.2.1)))) u2)))) fun (y3 : (List Int)) =>
                              some ((List.take (Int.toNat (Go.IntKind.wrap .i64 y1.2.1)) (List.drop 0 y3)), ())))))))
                else
                  (gd ((0 : Int) ≤ (Go.IntKind.wrap .i64 y1.2.1)) (gd ((Go.IntKind.wrap .i64 y1.2.1) ≤ (140737488355328 : Int)) (anyBytes (Go.IntKind.wrap .i64 y1.2.1) fun (u2 : List Int) =>
                      gd ((0 : Int) ≤ (Go.IntKind.wrap .i64 y1.2.1)) (gd ((Go.IntKind.wrap .i64 y1.2.1) ≤ (Go.IntKind.wrap .i64 y1.2.1)) (gd ((Go.IntKind.wrap .i64 y1.2.1) ≤ (((List.length u2) : Nat) : Int)) (Option.bind (loopM (X := (Int × (List Int))) (E := (List Int)) (fun (x3 : (Int × (List Int))) =>
                                  bif (decide (x3.1 < (Go.IntKind.wrap .i64 y1.2.1))) then
                                    (gd ((0 : Int) ≤ x3.1) (gd (x3.1 ≤ (((Int.toNat (Go.IntKind.wrap .i64 y1.2.1)) : Nat) : Int)) (gd ((((Int.toNat (Go.IntKind.wrap .i64 y1.2.1)) : Nat) : Int) ≤ (((Int.toNat (Go.IntKind.wrap .i64 y1.2.1)) : Nat) : Int)) (gd ((0 : Int) ≤ (if (Go.IntKind.wrap .i64 ((Go.IntKind.wrap .i64 (Int.tdiv (8192 : Int) (((List.length x.1) : Nat) : Int))) * (((List.length x.1) : Nat) : Int))) < x3.1 then (Go.IntKind.wrap .i64 ((Go.IntKind.wrap .i64 (Int.tdiv (8192 : Int) (((List.length x.1) : Nat) : Int))) * (((List.length x.1) : Nat) : Int))) else x3.1)) (gd ((if (Go.IntKind.wrap .i64 ((Go.IntKind.wrap .i64 (Int.tdiv (8192 : Int) (((List.length x.1) : Nat) : Int))) * (((List.length x.1) : Nat) : Int))) < x3.1 then (Go.IntKind.wrap .i64 ((Go.IntKind.wrap .i64 (Int.tdiv (8192 : Int) (((List.length x.1) : Nat) : Int))) * (((List.length x.1) : Nat) : Int))) else x3.1) ≤ (((Int.toNat (Go.IntKind.wrap .i64 y1.2.1)) : Nat) : Int)) (some (Sum.inl ((Go.IntKind.wrap .i64 (x3.1 + (((min (List.length (List.take ((Int.toNat (if (Go.IntKind.wrap .i64 ((Go.IntKind.wrap .i64 (Int.tdiv (8192 : Int) (((List.length x.1) : Nat) : Int))) * (((List.length x.1) : Nat) : Int))) < x3.1 then (Go.IntKind.wrap .i64 ((Go.IntKind.wrap .i64 (Int.tdiv (8192 : Int) (((List.length x.1) : Nat) : Int))) * (((List.length x.1) : Nat) : Int))) else x3.1)) - (Int.toNat (0 : Int))) (List.drop (0 + (Int.toNat (0 : Int))) x3.2))) ((Int.toNat (((Int.toNat (Go.IntKind.wrap .i64 y1.2.1)) : Nat) : Int)) - (Int.toNat x3.1))) : Nat) : Int))), (((List.take (0 + (Int.toNat x3.1)) x3.2) ++ (List.take ((Int.toNat (((Int.toNat (Go.IntKind.wrap .i64 y1.2.1)) : Nat) : Int)) - (Int.toNat x3.1)) (List.take ((Int.toNat (if (Go.IntKind.wrap .i64 ((Go.IntKind.wrap .i64 (Int.tdiv (8192 : Int) (((List.length x.1) : Nat) : Int))) * (((List.length x.1) : Nat) : Int))) < x3.1 then (Go.IntKind.wrap .i64 ((Go.IntKind.wrap .i64 (Int.tdiv (8192 : Int) (((List.length x.1) : Nat) : Int))) * (((List.length x.1) : Nat) : Int))) else x3.1)) - (Int.toNat (0 : Int))) (List.drop (0 + (Int.toNat (0 : Int))) x3.2)))) ++ (List.drop ((0 + (Int.toNat x3.1)) + (min (List.length (List.take ((Int.toNat (if (Go.IntKind.wrap .i64 ((Go.IntKind.wrap .i64 (Int.tdiv (8192 : Int) (((List.length x.1) : Nat) : Int))) * (((List.length x.1) : Nat) : Int))) < x3.1 then (Go.IntKind.wrap .i64 ((Go.IntKind.wrap .i64 (Int.tdiv (8192 : Int) (((List.length x.1) : Nat) : Int))) * (((List.length x.1) : Nat) : Int))) else x3.1)) - (Int.toNat (0 : Int))) (List.drop (0 + (Int.toNat (0 : Int))) x3.2))) ((Int.toNat (((Int.toNat (Go.IntKind.wrap .i64 y1.2.1)) : Nat) : Int)) - (Int.toNat x3.1)))) x3.2))))))))))
                                  else
                                    (some (Sum.inr x3.2))) ((((min (List.length x.1) (Int.toNat (Go.IntKind.wrap .i64 y1.2.1))) : Nat) : Int), (((List.take 0 u2) ++ (List.take (Int.toNat (Go.IntKind.wrap .i64 y1.2.1)) x.1)) ++ (List.drop (0 + (min (List.length x.1) (Int.toNat (Go.IntKind.wrap .i64 y1.2.1)))) u2)))) fun (y3 : (List Int)) =>
                              some ((List.take (Int.toNat (Go.IntKind.wrap .i64 y1.2.1)) (List.drop 0 y3)), ())))))))))
            else
              (gd ((0 : Int) ≤ (Go.IntKind.wrap .i64 y1.2.1)) (gd ((Go.IntKind.wrap .i64 y1.2.1) ≤ (140737488355328 : Int)) (anyBytes (Go.IntKind.wrap .i64 y1.2.1) fun (u2 : List Int) =>
                  gd ((0 : Int) ≤ (Go.IntKind.wrap .i64 y1.2.1)) (gd ((Go.IntKind.wrap .i64 y1.2.1) ≤ (Go.IntKind.wrap .i64 y1.2.1)) (gd ((Go.IntKind.wrap .i64 y1.2.1) ≤ (((List.length u2) : Nat) : Int)) (Option.bind (loopM (X := (Int × (List Int))) (E := (List Int)) (fun (x3 : (Int × (List Int))) =>
                              bif (decide (x3.1 < (Go.IntKind.wrap .i64 y1.2.1))) then
                                (gd ((0 : Int) ≤ x3.1) (gd (x3.1 ≤ (((Int.toNat (Go.IntKind.wrap .i64 y1.2.1)) : Nat) : Int)) (gd ((((Int.toNat (Go.IntKind.wrap .i64 y1.2.1)) : Nat) : Int) ≤ (((Int.toNat (Go.IntKind.wrap .i64 y1.2.1)) : Nat) : Int)) (gd ((0 : Int) ≤ (if (Go.IntKind.wrap .i64 y1.2.1) < x3.1 then (Go.IntKind.wrap .i64 y1.2.1) else x3.1)) (gd ((if (Go.IntKind.wrap .i64 y1.2.1) < x3.1 then (Go.IntKind.wrap .i64 y1.2.1) else x3.1) ≤ (((Int.toNat (Go.IntKind.wrap .i64 y1.2.1)) : Nat) : Int)) (some (Sum.inl ((Go.IntKind.wrap .i64 (x3.1 + (((min (List.length (List.take ((Int.toNat (if (Go.IntKind.wrap .i64 y1.2.1) < x3.1 then (Go.IntKind.wrap .i64 y1.2.1) else x3.1)) - (Int.toNat (0 : Int))) (List.drop (0 + (Int.toNat (0 : Int))) x3.2))) ((Int.toNat (((Int.toNat (Go.IntKind.wrap .i64 y1.2.1)) : Nat) : Int)) - (Int.toNat x3.1))) : Nat) : Int))), (((List.take (0 + (Int.toNat x3.1)) x3.2) ++ (List.take ((Int.toNat (((Int.toNat (Go.IntKind.wrap .i64 y1.2.1)) : Nat) : Int)) - (Int.toNat x3.1)) (List.take ((Int.toNat (if (Go.IntKind.wrap .i64 y1.2.1) < x3.1 then (Go.IntKind.wrap .i64 y1.2.1) else x3.1)) - (Int.toNat (0 : Int))) (List.drop (0 + (Int.toNat (0 : Int))) x3.2)))) ++ (List.drop ((0 + (Int.toNat x3.1)) + (min (List.length (List.take ((Int.toNat (if (Go.IntKind.wrap .i64 y1.2.1) < x3.1 then (Go.IntKind.wrap .i64 y1.2.1) else x3.1)) - (Int.toNat (0 : Int))) (List.drop (0 + (Int.toNat (0 : Int))) x3.2))) ((Int.toNat (((Int.toNat (Go.IntKind.wrap .i64 y1.2.1)) : Nat) : Int)) - (Int.toNat x3.1)))) x3.2))))))))))
                              else
                                (some (Sum.inr x3.2))) ((((min (List.length x.1) (Int.toNat (Go.IntKind.wrap .i64 y1.2.1))) : Nat) : Int), (((List.take 0 u2) ++ (List.take (Int.toNat (Go.IntKind.wrap .i64 y1.2.1)) x.1)) ++ (List.drop (0 + (min (List.length x.1) (Int.toNat (Go.IntKind.wrap .i64 y1.2.1)))) u2)))) fun (y3 : (List Int)) =>
                          some ((List.take (Int.toNat (Go.IntKind.wrap .i64 y1.2.1)) (List.drop 0 y3)), ()))))))))))))

noncomputable def r28 : PDen [(false, (.sl (.int .u8))), (false, (.int .i64))] → Option (PDen [(false, (.sl (.int .u8)))]) := fun x => afun Try.prog (envOfZ [(52, ⟨[(false, (.int .u64)), (false, (.int .u64))], [(false, (.int .u64)), (false, (.int .u64))], false, m52⟩)] [] [] [] [(53, (32, 5))]) ⟨[(0, ⟨[.slot 10 (.d false (.int .i64) true), .vec 0 5 (.int .u8) true], [], [(some 0, [.vec 0 5 (.int .u8) true])], none⟩)], []⟩ Try.f28 [(false, (.sl (.int .u8))), (false, (.int .i64))] [(false, (.sl (.int .u8)))] false x
theorem r28_eq : r28 = m28 := by kernel_rfl

theorem c28 : CS.Sound Try.prog 28 ⟨[(false, (.sl (.int .u8))), (false, (.int .i64))], [(false, (.sl (.int .u8)))], false, m28⟩ := afun_sound' (envOfZ_sound (CSs.cons c52 (CSs.nil)) (HDs.nil) (IDs.nil) (MZs.cons z53 (MZs.nil))) rfl Try.follows (f := 28) (fn := Try.f28) Try.func28 (by kernel_rfl) (by kernel_rfl) r28_eq
end Go.Proofs.Ytmengjdjjnhajaa
end

section
/- What function 36 ((*slipway/disk.RAM).there) computes, by the kernel. -/
open Go Go.Proofs.AM
namespace Go.Proofs.Ytmengjdjjnhajaa

noncomputable def m36 (x : ((List (List Int)) × ((List Bool) × (Bool × (Bool × (Int × (Int × (List (Int × (List Int))))))))) × Int × Unit) : Option (Bool × Unit) :=
  bif (decide (x.2.1 ≥ (0 : Int))) then
    (some ((decide (x.2.1 < (((List.length x.1.1) : Nat) : Int))), ()))
  else
    (some (false, ()))

noncomputable def r36 : PDen [(false, (.rp (.pair (.sl (.sl (.int .u8))) (.pair (.sl .bool) (.pair .bool (.pair .bool (.pair (.int .i64) (.pair (.int .i64) (.sl (.pair (.int .i64) (.sl (.int .u8)))))))))))), (false, (.int .i64))] → Option (PDen [(false, .bool)]) := fun x => afun Try.prog (envOf [] [] [] []) ⟨[], []⟩ Try.f36 [(false, (.rp (.pair (.sl (.sl (.int .u8))) (.pair (.sl .bool) (.pair .bool (.pair .bool (.pair (.int .i64) (.pair (.int .i64) (.sl (.pair (.int .i64) (.sl (.int .u8)))))))))))), (false, (.int .i64))] [(false, .bool)] false x
theorem r36_eq : r36 = m36 := by kernel_rfl

theorem c36 : CS.Sound Try.prog 36 ⟨[(false, (.rp (.pair (.sl (.sl (.int .u8))) (.pair (.sl .bool) (.pair .bool (.pair .bool (.pair (.int .i64) (.pair (.int .i64) (.sl (.pair (.int .i64) (.sl (.int .u8)))))))))))), (false, (.int .i64))], [(false, .bool)], false, m36⟩ := afun_sound' (envOf_sound (CSs.nil) (HDs.nil) (IDs.nil)) rfl Try.follows (f := 36) (fn := Try.f36) Try.func36 (by kernel_rfl) (by kernel_rfl) r36_eq
end Go.Proofs.Ytmengjdjjnhajaa
end

section
/- What function 37 (slices.Clone(()byte,byte)) computes, by the kernel. -/
open Go Go.Proofs.AM
namespace Go.Proofs.Ytmengjdjjnhajaa

noncomputable def m37 (x : (List Int) × Unit) : Option ((List Int) × Unit) :=
  both (bif (decide ((((List.length x.1) : Nat) : Int) = (0 : Int))) then
      (some (([] : List Int), ()))
    else
      (gd ((((List.length ([] : List Int)) + (List.length x.1)) * 1) ≤ 140737488355328) (gd (((List.length ([] : List Int)) + (List.length x.1)) ≤ 140737488355328) (some ((([] : List Int) ++ x.1), ()))))) (gd ((((List.length ([] : List Int)) + (List.length x.1)) * 1) ≤ 140737488355328) (gd (((List.length ([] : List Int)) + (List.length x.1)) ≤ 140737488355328) (some ((([] : List Int) ++ x.1), ()))))

noncomputable def r37 : PDen [(false, (.sl (.int .u8)))] → Option (PDen [(false, (.sl (.int .u8)))]) := fun x => afun Try.prog (envOf [] [] [] []) ⟨[], []⟩ Try.f37 [(false, (.sl (.int .u8)))] [(false, (.sl (.int .u8)))] false x
theorem r37_eq : r37 = m37 := by kernel_rfl

theorem c37 : CS.Sound Try.prog 37 ⟨[(false, (.sl (.int .u8)))], [(false, (.sl (.int .u8)))], false, m37⟩ := afun_sound' (envOf_sound (CSs.nil) (HDs.nil) (IDs.nil)) rfl Try.follows (f := 37) (fn := Try.f37) Try.func37 (by kernel_rfl) (by kernel_rfl) r37_eq
end Go.Proofs.Ytmengjdjjnhajaa
end

section
/- What function 29 ((*slipway/disk.RAM).Read) computes, by the kernel. -/
open Go Go.Proofs.AM
namespace Go.Proofs.Ytmengjdjjnhajaa

noncomputable def m29 (x : ((List (List Int)) × ((List Bool) × (Bool × (Bool × (Int × (Int × (List (Int × (List Int))))))))) × Int × Unit) : Option ((List Int) × (Int × Unit)) :=
  Option.bind (m35 (x.1, ())) fun (y1 : (Int × Unit)) =>
  bif (!(decide (y1.1 = (0 : Int)))) then
    (some (([] : List Int), (y1.1, ())))
  else
    (Option.bind (m36 (x.1, (x.2.1, ()))) fun (y2 : (Bool × Unit)) =>
    bif (!y2.1) then
      (some (([] : List Int), ((1 : Int), ())))
    else
      (gd ((0 : Int) ≤ x.2.1) (gd (x.2.1 < (((List.length x.1.2.1) : Nat) : Int)) (bif (List.getD x.1.2.1 (Int.toNat x.2.1) false) then
            (some (([] : List Int), ((80 : Int), ())))
          else
            (gd ((0 : Int) ≤ x.2.1) (gd (x.2.1 < (((List.length x.1.1) : Nat) : Int)) (Option.bind (m37 ((List.getD x.1.1 (Int.toNat x.2.1) ([] : List Int)), ())) fun (y3 : ((List Int) × Unit)) =>
                some (y3.1, ((0 : Int), ())))))))))

noncomputable def r29 : PDen [(false, (.rp (.pair (.sl (.sl (.int .u8))) (.pair (.sl .bool) (.pair .bool (.pair .bool (.pair (.int .i64) (.pair (.int .i64) (.sl (.pair (.int .i64) (.sl (.int .u8)))))))))))), (false, (.int .i64))] → Option (PDen [(false, (.sl (.int .u8))), (false, (.int .i64))]) := fun x => afun Try.prog (envOf [(35, ⟨[(false, (.rp (.pair (.sl (.sl (.int .u8))) (.pair (.sl .bool) (.pair .bool (.pair .bool (.pair (.int .i64) (.pair (.int .i64) (.sl (.pair (.int .i64) (.sl (.int .u8))))))))))))], [(false, (.int .i64))], false, m35⟩), (36, ⟨[(false, (.rp (.pair (.sl (.sl (.int .u8))) (.pair (.sl .bool) (.pair .bool (.pair .bool (.pair (.int .i64) (.pair (.int .i64) (.sl (.pair (.int .i64) (.sl (.int .u8)))))))))))), (false, (.int .i64))], [(false, .bool)], false, m36⟩), (37, ⟨[(false, (.sl (.int .u8)))], [(false, (.sl (.int .u8)))], false, m37⟩)] [] [] []) ⟨[], []⟩ Try.f29 [(false, (.rp (.pair (.sl (.sl (.int .u8))) (.pair (.sl .bool) (.pair .bool (.pair .bool (.pair (.int .i64) (.pair (.int .i64) (.sl (.pair (.int .i64) (.sl (.int .u8)))))))))))), (false, (.int .i64))] [(false, (.sl (.int .u8))), (false, (.int .i64))] false x
theorem r29_eq : r29 = m29 := by kernel_rfl

theorem c29 : CS.Sound Try.prog 29 ⟨[(false, (.rp (.pair (.sl (.sl (.int .u8))) (.pair (.sl .bool) (.pair .bool (.pair .bool (.pair (.int .i64) (.pair (.int .i64) (.sl (.pair (.int .i64) (.sl (.int .u8)))))))))))), (false, (.int .i64))], [(false, (.sl (.int .u8))), (false, (.int .i64))], false, m29⟩ := afun_sound' (envOf_sound (CSs.cons c35 (CSs.cons c36 (CSs.cons c37 (CSs.nil)))) (HDs.nil) (IDs.nil)) rfl Try.follows (f := 29) (fn := Try.f29) Try.func29 (by kernel_rfl) (by kernel_rfl) r29_eq
end Go.Proofs.Ytmengjdjjnhajaa
end

section
/- What function 30 (bytes.Equal) computes, by the kernel. -/
open Go Go.Proofs.AM
namespace Go.Proofs.Ytmengjdjjnhajaa

noncomputable def m30 (x : (List Int) × (List Int) × Unit) : Option (Bool × Unit) :=
  some ((streq (Go.strOfNums x.1) (Go.strOfNums x.2.1)), ())

noncomputable def r30 : PDen [(false, (.sl (.int .u8))), (false, (.sl (.int .u8)))] → Option (PDen [(false, .bool)]) := fun x => afun Try.prog (envOf [] [] [] []) ⟨[], []⟩ Try.f30 [(false, (.sl (.int .u8))), (false, (.sl (.int .u8)))] [(false, .bool)] false x
theorem r30_eq : r30 = m30 := by kernel_rfl

theorem c30 : CS.Sound Try.prog 30 ⟨[(false, (.sl (.int .u8))), (false, (.sl (.int .u8)))], [(false, .bool)], false, m30⟩ := afun_sound' (envOf_sound (CSs.nil) (HDs.nil) (IDs.nil)) rfl Try.follows (f := 30) (fn := Try.f30) Try.func30 (by kernel_rfl) (by kernel_rfl) r30_eq
end Go.Proofs.Ytmengjdjjnhajaa
end

section
/- What function 10 ((*slipway/disk.RAM).CutAfter) computes, by the kernel. -/
open Go Go.Proofs.AM
namespace Go.Proofs.Ytmengjdjjnhajaa

noncomputable def m10 (x : ((List (List Int)) × ((List Bool) × (Bool × (Bool × (Int × (Int × (List (Int × (List Int))))))))) × Int × Unit) : Option (((List (List Int)) × ((List Bool) × (Bool × (Bool × (Int × (Int × (List (Int × (List Int))))))))) × Unit) :=
  Option.bind (m34 (x.1, ())) fun (y1 : (Bool × Unit)) =>
  bif (!y1.1) then
    (some ((x.1.1, (x.1.2.1, (x.1.2.2.1, ((decide (x.2.1 ≥ (0 : Int))), ((if (0 : Int) > x.2.1 then (0 : Int) else x.2.1), x.1.2.2.2.2.2))))), ()))
  else
    (some (x.1, ()))

noncomputable def r10 : PDen ((true, (.pair (.sl (.sl (.int .u8))) (.pair (.sl .bool) (.pair .bool (.pair .bool (.pair (.int .i64) (.pair (.int .i64) (.sl (.pair (.int .i64) (.sl (.int .u8))))))))))) :: [(false, (.int .i64))]) → Option (PDen ((true, (.pair (.sl (.sl (.int .u8))) (.pair (.sl .bool) (.pair .bool (.pair .bool (.pair (.int .i64) (.pair (.int .i64) (.sl (.pair (.int .i64) (.sl (.int .u8))))))))))) :: [])) := fun x => afunIO Try.prog (envOf [(34, ⟨[(false, (.rp (.pair (.sl (.sl (.int .u8))) (.pair (.sl .bool) (.pair .bool (.pair .bool (.pair (.int .i64) (.pair (.int .i64) (.sl (.pair (.int .i64) (.sl (.int .u8))))))))))))], [(false, .bool)], false, m34⟩)] [] [] []) ⟨[], []⟩ Try.f10 64 (.pair (.sl (.sl (.int .u8))) (.pair (.sl .bool) (.pair .bool (.pair .bool (.pair (.int .i64) (.pair (.int .i64) (.sl (.pair (.int .i64) (.sl (.int .u8)))))))))) (.p (.s 32) (.p (.s 4) (.p .d (.p .d (.p .d (.p .d (.s 75))))))) [(false, (.int .i64))] [] x
theorem r10_eq : r10 = m10 := by kernel_rfl

theorem c10 : IOc.Sound Try.prog 10 ⟨64, (.pair (.sl (.sl (.int .u8))) (.pair (.sl .bool) (.pair .bool (.pair .bool (.pair (.int .i64) (.pair (.int .i64) (.sl (.pair (.int .i64) (.sl (.int .u8)))))))))), (.p (.s 32) (.p (.s 4) (.p .d (.p .d (.p .d (.p .d (.s 75))))))), [(false, (.int .i64))], [], m10⟩ := afunIO_sound' (envOf_sound (CSs.cons c34 (CSs.nil)) (HDs.nil) (IDs.nil)) rfl Try.follows (f := 10) (fn := Try.f10) Try.func10 (by kernel_rfl) (by kernel_rfl) r10_eq
end Go.Proofs.Ytmengjdjjnhajaa
end

section
/- What function 11 ((*slipway/disk.RAM).Write) computes, by the kernel. -/
open Go Go.Proofs.AM
namespace Go.Proofs.Ytmengjdjjnhajaa

noncomputable def m11 (x : ((List (List Int)) × ((List Bool) × (Bool × (Bool × (Int × (Int × (List (Int × (List Int))))))))) × Int × (List Int) × Unit) : Option (((List (List Int)) × ((List Bool) × (Bool × (Bool × (Int × (Int × (List (Int × (List Int))))))))) × (Int × Unit)) :=
  Option.bind (m35 (x.1, ())) fun (y1 : (Int × Unit)) =>
  bif (!(decide (y1.1 = (0 : Int)))) then
    (some (x.1, (y1.1, ())))
  else
    (Option.bind (m36 (x.1, (x.2.1, ()))) fun (y2 : (Bool × Unit)) =>
    bif (!y2.1) then
      (some (x.1, ((1 : Int), ())))
    else
      (bif (!(decide ((((List.length x.2.2.1) : Nat) : Int) = (256 : Int)))) then
        (some (x.1, ((1 : Int), ())))
      else
        (bif x.1.2.2.2.1 then
          (bif (decide (x.1.2.2.2.2.1 = (0 : Int))) then
            (some ((x.1.1, (x.1.2.1, (true, x.1.2.2.2))), ((8 : Int), ())))
          else
            (Option.bind (m37 (x.2.2.1, ())) fun (y3 : ((List Int) × Unit)) =>
            gd ((0 : Int) ≤ x.2.1) (gd (x.2.1 < (((List.length x.1.1) : Nat) : Int)) (gd ((Int.toNat x.2.1) < (List.length x.1.1)) (gd ((0 : Int) ≤ x.2.1) (gd (x.2.1 < (((List.length x.1.2.1) : Nat) : Int)) (gd ((Int.toNat x.2.1) < (List.length x.1.2.1)) (Option.bind (m37 (x.2.2.1, ())) fun (y4 : ((List Int) × Unit)) =>
                        gd ((((List.length x.1.2.2.2.2.2.2) + (List.length ((x.2.1, y4.1) :: ([] : List (Int × (List Int)))))) * 32) ≤ 140737488355328) (gd (((List.length x.1.2.2.2.2.2.2) + (List.length ((x.2.1, y4.1) :: ([] : List (Int × (List Int)))))) ≤ 140737488355328) (gd ((0 : Int) ≤ (if (Go.IntKind.wrap .i64 ((((List.length (x.1.2.2.2.2.2.2 ++ ((x.2.1, y4.1) :: ([] : List (Int × (List Int)))))) : Nat) : Int) - (1024 : Int))) > (0 : Int) then (Go.IntKind.wrap .i64 ((((List.length (x.1.2.2.2.2.2.2 ++ ((x.2.1, y4.1) :: ([] : List (Int × (List Int)))))) : Nat) : Int) - (1024 : Int))) else (0 : Int))) (gd ((if (Go.IntKind.wrap .i64 ((((List.length (x.1.2.2.2.2.2.2 ++ ((x.2.1, y4.1) :: ([] : List (Int × (List Int)))))) : Nat) : Int) - (1024 : Int))) > (0 : Int) then (Go.IntKind.wrap .i64 ((((List.length (x.1.2.2.2.2.2.2 ++ ((x.2.1, y4.1) :: ([] : List (Int × (List Int)))))) : Nat) : Int) - (1024 : Int))) else (0 : Int)) ≤ (((List.length (x.1.2.2.2.2.2.2 ++ ((x.2.1, y4.1) :: ([] : List (Int × (List Int)))))) : Nat) : Int)) (gd ((((List.length (x.1.2.2.2.2.2.2 ++ ((x.2.1, y4.1) :: ([] : List (Int × (List Int)))))) : Nat) : Int) ≤ (((List.length (x.1.2.2.2.2.2.2 ++ ((x.2.1, y4.1) :: ([] : List (Int × (List Int)))))) : Nat) : Int)) (some (((List.set x.1.1 (Int.toNat x.2.1) y3.1), ((List.set x.1.2.1 (Int.toNat x.2.1) false), (x.1.2.2.1, (x.1.2.2.2.1, ((Go.IntKind.wrap .i64 (x.1.2.2.2.2.1 - (1 : Int))), ((Go.IntKind.wrap .i64 (x.1.2.2.2.2.2.1 + (1 : Int))), (List.take ((Int.toNat (((List.length (x.1.2.2.2.2.2.2 ++ ((x.2.1, y4.1) :: ([] : List (Int × (List Int)))))) : Nat) : Int)) - (Int.toNat (if (Go.IntKind.wrap .i64 ((((List.length (x.1.2.2.2.2.2.2 ++ ((x.2.1, y4.1) :: ([] : List (Int × (List Int)))))) : Nat) : Int) - (1024 : Int))) > (0 : Int) then (Go.IntKind.wrap .i64 ((((List.length (x.1.2.2.2.2.2.2 ++ ((x.2.1, y4.1) :: ([] : List (Int × (List Int)))))) : Nat) : Int) - (1024 : Int))) else (0 : Int)))) (List.drop (Int.toNat (if (Go.IntKind.wrap .i64 ((((List.length (x.1.2.2.2.2.2.2 ++ ((x.2.1, y4.1) :: ([] : List (Int × (List Int)))))) : Nat) : Int) - (1024 : Int))) > (0 : Int) then (Go.IntKind.wrap .i64 ((((List.length (x.1.2.2.2.2.2.2 ++ ((x.2.1, y4.1) :: ([] : List (Int × (List Int)))))) : Nat) : Int) - (1024 : Int))) else (0 : Int))) (x.1.2.2.2.2.2.2 ++ ((x.2.1, y4.1) :: ([] : List (Int × (List Int))))))))))))), ((0 : Int), ())))))))))))))))
        else
          (Option.bind (m37 (x.2.2.1, ())) fun (y3 : ((List Int) × Unit)) =>
          gd ((0 : Int) ≤ x.2.1) (gd (x.2.1 < (((List.length x.1.1) : Nat) : Int)) (gd ((Int.toNat x.2.1) < (List.length x.1.1)) (gd ((0 : Int) ≤ x.2.1) (gd (x.2.1 < (((List.length x.1.2.1) : Nat) : Int)) (gd ((Int.toNat x.2.1) < (List.length x.1.2.1)) (Option.bind (m37 (x.2.2.1, ())) fun (y4 : ((List Int) × Unit)) =>
                      gd ((((List.length x.1.2.2.2.2.2.2) + (List.length ((x.2.1, y4.1) :: ([] : List (Int × (List Int)))))) * 32) ≤ 140737488355328) (gd (((List.length x.1.2.2.2.2.2.2) + (List.length ((x.2.1, y4.1) :: ([] : List (Int × (List Int)))))) ≤ 140737488355328) (gd ((0 : Int) ≤ (if (Go.IntKind.wrap .i64 ((((List.length (x.1.2.2.2.2.2.2 ++ ((x.2.1, y4.1) :: ([] : List (Int × (List Int)))))) : Nat) : Int) - (1024 : Int))) > (0 : Int) then (Go.IntKind.wrap .i64 ((((List.length (x.1.2.2.2.2.2.2 ++ ((x.2.1, y4.1) :: ([] : List (Int × (List Int)))))) : Nat) : Int) - (1024 : Int))) else (0 : Int))) (gd ((if (Go.IntKind.wrap .i64 ((((List.length (x.1.2.2.2.2.2.2 ++ ((x.2.1, y4.1) :: ([] : List (Int × (List Int)))))) : Nat) : Int) - (1024 : Int))) > (0 : Int) then (Go.IntKind.wrap .i64 ((((List.length (x.1.2.2.2.2.2.2 ++ ((x.2.1, y4.1) :: ([] : List (Int × (List Int)))))) : Nat) : Int) - (1024 : Int))) else (0 : Int)) ≤ (((List.length (x.1.2.2.2.2.2.2 ++ ((x.2.1, y4.1) :: ([] : List (Int × (List Int)))))) : Nat) : Int)) (gd ((((List.length (x.1.2.2.2.2.2.2 ++ ((x.2.1, y4.1) :: ([] : List (Int × (List Int)))))) : Nat) : Int) ≤ (((List.length (x.1.2.2.2.2.2.2 ++ ((x.2.1, y4.1) :: ([] : List (Int × (List Int)))))) : Nat) : Int)) (some (((List.set x.1.1 (Int.toNat x.2.1) y3.1), ((List.set x.1.2.1 (Int.toNat x.2.1) false), (x.1.2.2.1, (x.1.2.2.2.1, (x.1.2.2.2.2.1, ((Go.IntKind.wrap .i64 (x.1.2.2.2.2.2.1 + (1 : Int))), (List.take ((Int.toNat (((List.length (x.1.2.2.2.2.2.2 ++ ((x.2.1, y4.1) :: ([] : List (Int × (List Int)))))) : Nat) : Int)) - (Int.toNat (if (Go.IntKind.wrap .i64 ((((List.length (x.1.2.2.2.2.2.2 ++ ((x.2.1, y4.1) :: ([] : List (Int × (List Int)))))) : Nat) : Int) - (1024 : Int))) > (0 : Int) then (Go.IntKind.wrap .i64 ((((List.length (x.1.2.2.2.2.2.2 ++ ((x.2.1, y4.1) :: ([] : List (Int × (List Int)))))) : Nat) : Int) - (1024 : Int))) else (0 : Int)))) (List.drop (Int.toNat (if (Go.IntKind.wrap .i64 ((((List.length (x.1.2.2.2.2.2.2 ++ ((x.2.1, y4.1) :: ([] : List (Int × (List Int)))))) : Nat) : Int) - (1024 : Int))) > (0 : Int) then (Go.IntKind.wrap .i64 ((((List.length (x.1.2.2.2.2.2.2 ++ ((x.2.1, y4.1) :: ([] : List (Int × (List Int)))))) : Nat) : Int) - (1024 : Int))) else (0 : Int))) (x.1.2.2.2.2.2.2 ++ ((x.2.1, y4.1) :: ([] : List (Int × (List Int))))))))))))), ((0 : Int), ())))))))))))))))))

noncomputable def r11 : PDen ((true, (.pair (.sl (.sl (.int .u8))) (.pair (.sl .bool) (.pair .bool (.pair .bool (.pair (.int .i64) (.pair (.int .i64) (.sl (.pair (.int .i64) (.sl (.int .u8))))))))))) :: [(false, (.int .i64)), (false, (.sl (.int .u8)))]) → Option (PDen ((true, (.pair (.sl (.sl (.int .u8))) (.pair (.sl .bool) (.pair .bool (.pair .bool (.pair (.int .i64) (.pair (.int .i64) (.sl (.pair (.int .i64) (.sl (.int .u8))))))))))) :: [(false, (.int .i64))])) := fun x => afunIO Try.prog (envOf [(35, ⟨[(false, (.rp (.pair (.sl (.sl (.int .u8))) (.pair (.sl .bool) (.pair .bool (.pair .bool (.pair (.int .i64) (.pair (.int .i64) (.sl (.pair (.int .i64) (.sl (.int .u8))))))))))))], [(false, (.int .i64))], false, m35⟩), (36, ⟨[(false, (.rp (.pair (.sl (.sl (.int .u8))) (.pair (.sl .bool) (.pair .bool (.pair .bool (.pair (.int .i64) (.pair (.int .i64) (.sl (.pair (.int .i64) (.sl (.int .u8)))))))))))), (false, (.int .i64))], [(false, .bool)], false, m36⟩), (37, ⟨[(false, (.sl (.int .u8)))], [(false, (.sl (.int .u8)))], false, m37⟩)] [] [71, 87] []) ⟨[], []⟩ Try.f11 64 (.pair (.sl (.sl (.int .u8))) (.pair (.sl .bool) (.pair .bool (.pair .bool (.pair (.int .i64) (.pair (.int .i64) (.sl (.pair (.int .i64) (.sl (.int .u8)))))))))) (.p (.s 32) (.p (.s 4) (.p .d (.p .d (.p .d (.p .d (.s 75))))))) [(false, (.int .i64)), (false, (.sl (.int .u8)))] [(false, (.int .i64))] x
theorem r11_eq : r11 = m11 := by kernel_rfl

theorem c11 : IOc.Sound Try.prog 11 ⟨64, (.pair (.sl (.sl (.int .u8))) (.pair (.sl .bool) (.pair .bool (.pair .bool (.pair (.int .i64) (.pair (.int .i64) (.sl (.pair (.int .i64) (.sl (.int .u8)))))))))), (.p (.s 32) (.p (.s 4) (.p .d (.p .d (.p .d (.p .d (.s 75))))))), [(false, (.int .i64)), (false, (.sl (.int .u8)))], [(false, (.int .i64))], m11⟩ := afunIO_sound' (envOf_sound (CSs.cons c35 (CSs.cons c36 (CSs.cons c37 (CSs.nil)))) (HDs.nil) (IDs.nil)) rfl Try.follows (f := 11) (fn := Try.f11) Try.func11 (by kernel_rfl) (by kernel_rfl) r11_eq
end Go.Proofs.Ytmengjdjjnhajaa
end

section
/- What function 16 ((*slipway/disk.RAM).Restart) computes, by the kernel. -/
open Go Go.Proofs.AM
namespace Go.Proofs.Ytmengjdjjnhajaa

noncomputable def m16 (x : ((List (List Int)) × ((List Bool) × (Bool × (Bool × (Int × (Int × (List (Int × (List Int))))))))) × Unit) : Option (((List (List Int)) × ((List Bool) × (Bool × (Bool × (Int × (Int × (List (Int × (List Int))))))))) × Unit) :=
  Option.bind (m34 (x.1, ())) fun (y1 : (Bool × Unit)) =>
  bif (!y1.1) then
    (some ((x.1.1, (x.1.2.1, (false, (false, ((0 : Int), x.1.2.2.2.2.2))))), ()))
  else
    (some (x.1, ()))

noncomputable def r16 : PDen ((true, (.pair (.sl (.sl (.int .u8))) (.pair (.sl .bool) (.pair .bool (.pair .bool (.pair (.int .i64) (.pair (.int .i64) (.sl (.pair (.int .i64) (.sl (.int .u8))))))))))) :: []) → Option (PDen ((true, (.pair (.sl (.sl (.int .u8))) (.pair (.sl .bool) (.pair .bool (.pair .bool (.pair (.int .i64) (.pair (.int .i64) (.sl (.pair (.int .i64) (.sl (.int .u8))))))))))) :: [])) := fun x => afunIO Try.prog (envOf [(34, ⟨[(false, (.rp (.pair (.sl (.sl (.int .u8))) (.pair (.sl .bool) (.pair .bool (.pair .bool (.pair (.int .i64) (.pair (.int .i64) (.sl (.pair (.int .i64) (.sl (.int .u8))))))))))))], [(false, .bool)], false, m34⟩)] [] [] []) ⟨[], []⟩ Try.f16 64 (.pair (.sl (.sl (.int .u8))) (.pair (.sl .bool) (.pair .bool (.pair .bool (.pair (.int .i64) (.pair (.int .i64) (.sl (.pair (.int .i64) (.sl (.int .u8)))))))))) (.p (.s 32) (.p (.s 4) (.p .d (.p .d (.p .d (.p .d (.s 75))))))) [] [] x
theorem r16_eq : r16 = m16 := by kernel_rfl

theorem c16 : IOc.Sound Try.prog 16 ⟨64, (.pair (.sl (.sl (.int .u8))) (.pair (.sl .bool) (.pair .bool (.pair .bool (.pair (.int .i64) (.pair (.int .i64) (.sl (.pair (.int .i64) (.sl (.int .u8)))))))))), (.p (.s 32) (.p (.s 4) (.p .d (.p .d (.p .d (.p .d (.s 75))))))), [], [], m16⟩ := afunIO_sound' (envOf_sound (CSs.cons c34 (CSs.nil)) (HDs.nil) (IDs.nil)) rfl Try.follows (f := 16) (fn := Try.f16) Try.func16 (by kernel_rfl) (by kernel_rfl) r16_eq
end Go.Proofs.Ytmengjdjjnhajaa
end

section
/- What function 7 (slipway/slipwaylaw09.live) computes, by the kernel. -/
open Go Go.Proofs.AM
namespace Go.Proofs.Ytmengjdjjnhajaa

noncomputable def m7 (x : Unit) : Option (Bool × Unit) :=
  bif (decide ((3 : Int) < (1 : Int))) then
    (bif (!(decide ((1 : Int) = (0 : Int)))) then
      (some (false, ()))
    else
      (some (false, ())))
  else
    (bif (decide ((3 : Int) > (8192 : Int))) then
      (bif (!(decide ((1 : Int) = (0 : Int)))) then
        (some (false, ()))
      else
        (some (false, ())))
    else
      (gd (((3 : Int) * (1 : Int)) ≤ (140737488355328 : Int)) (Option.bind (loopM (X := (Int × ((List (List Int)) × ((List Bool) × (Bool × (Bool × (Int × (Int × (List (Int × (List Int))))))))))) (E := ((List (List Int)) × ((List Bool) × (Bool × (Bool × (Int × (Int × (List (Int × (List Int)))))))))) (fun (x1 : (Int × ((List (List Int)) × ((List Bool) × (Bool × (Bool × (Int × (Int × (List (Int × (List Int))))))))))) =>
            bif (decide (x1.1 < (3 : Int))) then
              (gd (((256 : Int) * (1 : Int)) ≤ (140737488355328 : Int)) (gd ((((List.length x1.2.1) + (List.length ((List.replicate (Int.toNat (256 : Int)) (0 : Int)) :: ([] : List (List Int))))) * 24) ≤ 140737488355328) (gd (((List.length x1.2.1) + (List.length ((List.replicate (Int.toNat (256 : Int)) (0 : Int)) :: ([] : List (List Int))))) ≤ 140737488355328) (some (Sum.inl ((Go.IntKind.wrap .i64 (x1.1 + (1 : Int))), ((x1.2.1 ++ ((List.replicate (Int.toNat (256 : Int)) (0 : Int)) :: ([] : List (List Int)))), (x1.2.2.1, (x1.2.2.2.1, (x1.2.2.2.2.1, (x1.2.2.2.2.2.1, (x1.2.2.2.2.2.2.1, x1.2.2.2.2.2.2.2))))))))))))
            else
              (some (Sum.inr (x1.2.1, (x1.2.2.1, (x1.2.2.2.1, (x1.2.2.2.2.1, (x1.2.2.2.2.2.1, (x1.2.2.2.2.2.2.1, x1.2.2.2.2.2.2.2))))))))) ((0 : Int), (([] : List (List Int)), ((List.replicate (Int.toNat (3 : Int)) false), (false, (false, ((0 : Int), ((0 : Int), ([] : List (Int × (List Int))))))))))) fun (y1 : ((List (List Int)) × ((List Bool) × (Bool × (Bool × (Int × (Int × (List (Int × (List Int)))))))))) =>
        bif (!(decide ((0 : Int) = (0 : Int)))) then
          (some (false, ()))
        else
          (Option.bind (m28 (((7 : Int) :: ([] : List Int)), ((256 : Int), ()))) fun (y2 : ((List Int) × Unit)) =>
          Option.bind (m10 (y1, ((1 : Int), ()))) fun (y3 : (((List (List Int)) × ((List Bool) × (Bool × (Bool × (Int × (Int × (List (Int × (List Int))))))))) × Unit)) =>
          Option.bind (m11 (y3.1, ((1 : Int), (y2.1, ())))) fun (y4 : (((List (List Int)) × ((List Bool) × (Bool × (Bool × (Int × (Int × (List (Int × (List Int))))))))) × (Int × Unit))) =>
          bif (!(decide (y4.2.1 = (0 : Int)))) then
            (some (false, ()))
          else
            (Option.bind (m11 (y4.1, ((2 : Int), (y2.1, ())))) fun (y5 : (((List (List Int)) × ((List Bool) × (Bool × (Bool × (Int × (Int × (List (Int × (List Int))))))))) × (Int × Unit))) =>
            bif (!(decide (y5.2.1 = (8 : Int)))) then
              (some (false, ()))
            else
              (Option.bind (m14 (y5.1, ())) fun (y6 : (Bool × Unit)) =>
              bif y6.1 then
                (some (false, ()))
              else
                (Option.bind (m16 (y5.1, ())) fun (y7 : (((List (List Int)) × ((List Bool) × (Bool × (Bool × (Int × (Int × (List (Int × (List Int))))))))) × Unit)) =>
                Option.bind (m29 (y7.1, ((1 : Int), ()))) fun (y8 : ((List Int) × (Int × Unit))) =>
                Option.bind (m29 (y7.1, ((2 : Int), ()))) fun (y9 : ((List Int) × (Int × Unit))) =>
                bif (decide (y8.2.1 = (0 : Int))) then
                  (bif (decide (y9.2.1 = (0 : Int))) then
                    (Option.bind (m30 (y8.1, (y2.1, ()))) fun (y10 : (Bool × Unit)) =>
                    bif y10.1 then
                      (gd (((256 : Int) * (1 : Int)) ≤ (140737488355328 : Int)) (Option.bind (m30 (y9.1, ((List.replicate (Int.toNat (256 : Int)) (0 : Int)), ()))) fun (y11 : (Bool × Unit)) =>
                        some (y11.1, ())))
                    else
                      (some (false, ())))
                  else
                    (some (false, ())))
                else
                  (some (false, ())))))))))

noncomputable def i7_8 : ID := aInl Try.prog (envOf [] [] [23, 24] []) ⟨[(3000, ⟨[.slot 16 (.d false (.int .i64) true), .cell 1 0 (.v 32 (.sl (.int .u8)) false), .cell 1 1 (.v 4 .bool false), .cell 1 2 (.d false .bool true), .cell 1 3 (.d false .bool true), .cell 1 4 (.d false (.int .i64) true), .cell 1 5 (.d false (.int .i64) true), .cell 1 6 (.v 75 (.pair (.int .i64) (.sl (.int .u8))) false)], [0], [(some 0, [.cell 1 0 (.v 32 (.sl (.int .u8)) false), .cell 1 1 (.v 4 .bool false), .cell 1 2 (.d false .bool true), .cell 1 3 (.d false .bool true), .cell 1 4 (.d false (.int .i64) true), .cell 1 5 (.d false (.int .i64) true), .cell 1 6 (.v 75 (.pair (.int .i64) (.sl (.int .u8))) false)])], none⟩)], []⟩ Try.f8
noncomputable def r7 : PDen [] → Option (PDen [(false, .bool)]) := fun x => afun Try.prog (envOf [(14, ⟨[(false, (.rp (.pair (.sl (.sl (.int .u8))) (.pair (.sl .bool) (.pair .bool (.pair .bool (.pair (.int .i64) (.pair (.int .i64) (.sl (.pair (.int .i64) (.sl (.int .u8))))))))))))], [(false, .bool)], false, m14⟩), (28, ⟨[(false, (.sl (.int .u8))), (false, (.int .i64))], [(false, (.sl (.int .u8)))], false, m28⟩), (29, ⟨[(false, (.rp (.pair (.sl (.sl (.int .u8))) (.pair (.sl .bool) (.pair .bool (.pair .bool (.pair (.int .i64) (.pair (.int .i64) (.sl (.pair (.int .i64) (.sl (.int .u8)))))))))))), (false, (.int .i64))], [(false, (.sl (.int .u8))), (false, (.int .i64))], false, m29⟩), (30, ⟨[(false, (.sl (.int .u8))), (false, (.sl (.int .u8)))], [(false, .bool)], false, m30⟩)] [(10, IOc.hd ⟨64, (.pair (.sl (.sl (.int .u8))) (.pair (.sl .bool) (.pair .bool (.pair .bool (.pair (.int .i64) (.pair (.int .i64) (.sl (.pair (.int .i64) (.sl (.int .u8)))))))))), (.p (.s 32) (.p (.s 4) (.p .d (.p .d (.p .d (.p .d (.s 75))))))), [(false, (.int .i64))], [], m10⟩), (11, IOc.hd ⟨64, (.pair (.sl (.sl (.int .u8))) (.pair (.sl .bool) (.pair .bool (.pair .bool (.pair (.int .i64) (.pair (.int .i64) (.sl (.pair (.int .i64) (.sl (.int .u8)))))))))), (.p (.s 32) (.p (.s 4) (.p .d (.p .d (.p .d (.p .d (.s 75))))))), [(false, (.int .i64)), (false, (.sl (.int .u8)))], [(false, (.int .i64))], m11⟩), (16, IOc.hd ⟨64, (.pair (.sl (.sl (.int .u8))) (.pair (.sl .bool) (.pair .bool (.pair .bool (.pair (.int .i64) (.pair (.int .i64) (.sl (.pair (.int .i64) (.sl (.int .u8)))))))))), (.p (.s 32) (.p (.s 4) (.p .d (.p .d (.p .d (.p .d (.s 75))))))), [], [], m16⟩)] [] [(8, i7_8)]) ⟨[], []⟩ Try.f7 [] [(false, .bool)] false x
theorem r7_eq : r7 = m7 := by kernel_rfl

theorem i7_8_sound : i7_8.Sound Try.prog 8 := aInl_sound' (envOf_sound (CSs.nil) (HDs.nil) (IDs.nil)) Try.follows (f := 8) (fn := Try.f8) Try.func8 (by kernel_rfl) (by kernel_rfl)
theorem c7 : CS.Sound Try.prog 7 ⟨[], [(false, .bool)], false, m7⟩ := afun_sound' (envOf_sound (CSs.cons c14 (CSs.cons c28 (CSs.cons c29 (CSs.cons c30 (CSs.nil))))) (HDs.cons (IOc.Sound.hd c10) (HDs.cons (IOc.Sound.hd c11) (HDs.cons (IOc.Sound.hd c16) (HDs.nil)))) (IDs.cons i7_8_sound (IDs.nil))) rfl Try.follows (f := 7) (fn := Try.f7) Try.func7 (by kernel_rfl) (by kernel_rfl) r7_eq
end Go.Proofs.Ytmengjdjjnhajaa
end

section
/- What function 6 (DiskNone) computes, by the kernel: two receivers that no call made, one after the other; each of their methods is carried out in place. -/
open Go Go.Proofs.AM
namespace Go.Proofs.Ytmengjdjjnhajaa

noncomputable def m6 (x : Int × (List Int) × Unit) : Option (Bool × Unit) :=
  Option.bind (m7 ()) fun (y1 : (Bool × Unit)) =>
  bif (!y1.1) then (some (false, ())) else (some (true, ()))

noncomputable def i6_34 : ID := aInl Try.prog (envOf [] [] [] []) ⟨[], []⟩ Try.f34
noncomputable def i6_35 : ID := aInl Try.prog (envOf [] [] [] [(34, i6_34)]) ⟨[], []⟩ Try.f35
noncomputable def i6_29 : ID := aInl Try.prog (envOf [] [] [] [(35, i6_35)]) ⟨[], []⟩ Try.f29
noncomputable def i6_31 : ID := aInl Try.prog (envOf [] [] [] []) ⟨[], []⟩ Try.f31
noncomputable def i6_54 : ID := aInl Try.prog (envOf [] [] [] [(34, i6_34)]) ⟨[], []⟩ Try.f54
noncomputable def i6_10 : ID := aInl Try.prog (envOf [] [] [] [(34, i6_34)]) ⟨[], []⟩ Try.f10
noncomputable def i6_16 : ID := aInl Try.prog (envOf [] [] [] [(34, i6_34)]) ⟨[], []⟩ Try.f16
noncomputable def i6_11 : ID := aInl Try.prog (envOf [] [] [] [(35, i6_35)]) ⟨[], []⟩ Try.f11
noncomputable def i6_32 : ID := aInl Try.prog (envOf [] [] [] [(35, i6_35)]) ⟨[], []⟩ Try.f32
noncomputable def i6_33 : ID := aInl Try.prog (envOf [] [] [] [(34, i6_34)]) ⟨[], []⟩ Try.f33
noncomputable def i6_22 : ID := aInl Try.prog (envOf [] [] [] [(34, i6_34)]) ⟨[], []⟩ Try.f22
noncomputable def i6_21 : ID := aInl Try.prog (envOf [] [] [] [(34, i6_34)]) ⟨[], []⟩ Try.f21
noncomputable def i6_14 : ID := aInl Try.prog (envOf [] [] [] [(35, i6_35)]) ⟨[], []⟩ Try.f14
noncomputable def i6_26 : ID := aInl Try.prog (envOf [] [] [] [(34, i6_34)]) ⟨[], []⟩ Try.f26
noncomputable def i6_17 : ID := aInl Try.prog (envOf [] [] [] []) ⟨[], []⟩ Try.f17
noncomputable def i6_27 : ID := aInl Try.prog (envOf [] [] [] [(17, i6_17)]) ⟨[], []⟩ Try.f27
noncomputable def r6 : PDen [(false, (.int .i64)), (false, (.sl (.int .u8)))] → Option (PDen [(false, .bool)]) := fun x => afun Try.prog (envOf [(7, ⟨[], [(false, .bool)], false, m7⟩)] [] [] [(29, i6_29), (31, i6_31), (54, i6_54), (10, i6_10), (16, i6_16), (11, i6_11), (32, i6_32), (33, i6_33), (22, i6_22), (21, i6_21), (14, i6_14), (26, i6_26), (17, i6_17), (27, i6_27)]) ⟨[(0, ⟨[], [], [], some 100003⟩)], []⟩ Try.f6 [(false, (.int .i64)), (false, (.sl (.int .u8)))] [(false, .bool)] false x
theorem r6_eq : r6 = m6 := by kernel_rfl

theorem i6_34_sound : i6_34.Sound Try.prog 34 := aInl_sound' (envOf_sound (CSs.nil) (HDs.nil) (IDs.nil)) Try.follows (f := 34) (fn := Try.f34) Try.func34 (by kernel_rfl) (by kernel_rfl)
theorem i6_35_sound : i6_35.Sound Try.prog 35 := aInl_sound' (envOf_sound (CSs.nil) (HDs.nil) (IDs.cons i6_34_sound (IDs.nil))) Try.follows (f := 35) (fn := Try.f35) Try.func35 (by kernel_rfl) (by kernel_rfl)
theorem i6_29_sound : i6_29.Sound Try.prog 29 := aInl_sound' (envOf_sound (CSs.nil) (HDs.nil) (IDs.cons i6_35_sound (IDs.nil))) Try.follows (f := 29) (fn := Try.f29) Try.func29 (by kernel_rfl) (by kernel_rfl)
theorem i6_31_sound : i6_31.Sound Try.prog 31 := aInl_sound' (envOf_sound (CSs.nil) (HDs.nil) (IDs.nil)) Try.follows (f := 31) (fn := Try.f31) Try.func31 (by kernel_rfl) (by kernel_rfl)
theorem i6_54_sound : i6_54.Sound Try.prog 54 := aInl_sound' (envOf_sound (CSs.nil) (HDs.nil) (IDs.cons i6_34_sound (IDs.nil))) Try.follows (f := 54) (fn := Try.f54) Try.func54 (by kernel_rfl) (by kernel_rfl)
theorem i6_10_sound : i6_10.Sound Try.prog 10 := aInl_sound' (envOf_sound (CSs.nil) (HDs.nil) (IDs.cons i6_34_sound (IDs.nil))) Try.follows (f := 10) (fn := Try.f10) Try.func10 (by kernel_rfl) (by kernel_rfl)
theorem i6_16_sound : i6_16.Sound Try.prog 16 := aInl_sound' (envOf_sound (CSs.nil) (HDs.nil) (IDs.cons i6_34_sound (IDs.nil))) Try.follows (f := 16) (fn := Try.f16) Try.func16 (by kernel_rfl) (by kernel_rfl)
theorem i6_11_sound : i6_11.Sound Try.prog 11 := aInl_sound' (envOf_sound (CSs.nil) (HDs.nil) (IDs.cons i6_35_sound (IDs.nil))) Try.follows (f := 11) (fn := Try.f11) Try.func11 (by kernel_rfl) (by kernel_rfl)
theorem i6_32_sound : i6_32.Sound Try.prog 32 := aInl_sound' (envOf_sound (CSs.nil) (HDs.nil) (IDs.cons i6_35_sound (IDs.nil))) Try.follows (f := 32) (fn := Try.f32) Try.func32 (by kernel_rfl) (by kernel_rfl)
theorem i6_33_sound : i6_33.Sound Try.prog 33 := aInl_sound' (envOf_sound (CSs.nil) (HDs.nil) (IDs.cons i6_34_sound (IDs.nil))) Try.follows (f := 33) (fn := Try.f33) Try.func33 (by kernel_rfl) (by kernel_rfl)
theorem i6_22_sound : i6_22.Sound Try.prog 22 := aInl_sound' (envOf_sound (CSs.nil) (HDs.nil) (IDs.cons i6_34_sound (IDs.nil))) Try.follows (f := 22) (fn := Try.f22) Try.func22 (by kernel_rfl) (by kernel_rfl)
theorem i6_21_sound : i6_21.Sound Try.prog 21 := aInl_sound' (envOf_sound (CSs.nil) (HDs.nil) (IDs.cons i6_34_sound (IDs.nil))) Try.follows (f := 21) (fn := Try.f21) Try.func21 (by kernel_rfl) (by kernel_rfl)
theorem i6_14_sound : i6_14.Sound Try.prog 14 := aInl_sound' (envOf_sound (CSs.nil) (HDs.nil) (IDs.cons i6_35_sound (IDs.nil))) Try.follows (f := 14) (fn := Try.f14) Try.func14 (by kernel_rfl) (by kernel_rfl)
theorem i6_26_sound : i6_26.Sound Try.prog 26 := aInl_sound' (envOf_sound (CSs.nil) (HDs.nil) (IDs.cons i6_34_sound (IDs.nil))) Try.follows (f := 26) (fn := Try.f26) Try.func26 (by kernel_rfl) (by kernel_rfl)
theorem i6_17_sound : i6_17.Sound Try.prog 17 := aInl_sound' (envOf_sound (CSs.nil) (HDs.nil) (IDs.nil)) Try.follows (f := 17) (fn := Try.f17) Try.func17 (by kernel_rfl) (by kernel_rfl)
theorem i6_27_sound : i6_27.Sound Try.prog 27 := aInl_sound' (envOf_sound (CSs.nil) (HDs.nil) (IDs.cons i6_17_sound (IDs.nil))) Try.follows (f := 27) (fn := Try.f27) Try.func27 (by kernel_rfl) (by kernel_rfl)
theorem c6 : CS.Sound Try.prog 6 ⟨[(false, (.int .i64)), (false, (.sl (.int .u8)))], [(false, .bool)], false, m6⟩ := afun_sound' (envOf_sound (CSs.cons c7 (CSs.nil)) (HDs.nil) (IDs.cons i6_29_sound (IDs.cons i6_31_sound (IDs.cons i6_54_sound (IDs.cons i6_10_sound (IDs.cons i6_16_sound (IDs.cons i6_11_sound (IDs.cons i6_32_sound (IDs.cons i6_33_sound (IDs.cons i6_22_sound (IDs.cons i6_21_sound (IDs.cons i6_14_sound (IDs.cons i6_26_sound (IDs.cons i6_17_sound (IDs.cons i6_27_sound (IDs.nil)))))))))))))))) rfl Try.follows (f := 6) (fn := Try.f6) Try.func6 (by kernel_rfl) (by kernel_rfl) r6_eq
end Go.Proofs.Ytmengjdjjnhajaa
end

section
/- What function 12 (slipway/slipwaylaw09.full) computes, by the kernel. -/
open Go Go.Proofs.AM
namespace Go.Proofs.Ytmengjdjjnhajaa

noncomputable def m12 (x : (Int × (Int × ((List Int) × Bool))) × Unit) : Option ((List Int) × Unit) :=
  bif x.1.2.2.2 then
    (some (x.1.2.2.1, ()))
  else
    (bif (decide ((((List.length x.1.2.2.1) : Nat) : Int) = (0 : Int))) then
      (some (x.1.2.2.1, ()))
    else
      (if (((List.length x.1.2.2.1) : Nat) : Int) = (0 : Int) then
        (none)
      else
        (Option.bind (m28 (x.1.2.2.1, ((Go.IntKind.wrap .i64 ((Go.IntKind.wrap .i64 (Int.tdiv (256 : Int) (((List.length x.1.2.2.1) : Nat) : Int))) + (1 : Int))), ()))) fun (y1 : ((List Int) × Unit)) =>
        gd ((256 : Int) ≤ (((List.length y1.1) : Nat) : Int)) (some ((List.take ((Int.toNat (256 : Int)) - (Int.toNat (0 : Int))) (List.drop (Int.toNat (0 : Int)) y1.1)), ())))))

noncomputable def r12 : PDen [(true, (.pair (.int .i64) (.pair (.int .i64) (.pair (.sl (.int .u8)) .bool))))] → Option (PDen [(false, (.sl (.int .u8)))]) := fun x => afun Try.prog (envOf [(28, ⟨[(false, (.sl (.int .u8))), (false, (.int .i64))], [(false, (.sl (.int .u8)))], false, m28⟩)] [] [] []) ⟨[], []⟩ Try.f12 [(true, (.pair (.int .i64) (.pair (.int .i64) (.pair (.sl (.int .u8)) .bool))))] [(false, (.sl (.int .u8)))] true x
theorem r12_eq : r12 = m12 := by kernel_rfl

theorem c12 : CS.Sound Try.prog 12 ⟨[(true, (.pair (.int .i64) (.pair (.int .i64) (.pair (.sl (.int .u8)) .bool))))], [(false, (.sl (.int .u8)))], true, m12⟩ := afun_sound' (envOf_sound (CSs.cons c28 (CSs.nil)) (HDs.nil) (IDs.nil)) rfl Try.follows (f := 12) (fn := Try.f12) Try.func12 (by kernel_rfl) (by kernel_rfl) r12_eq
end Go.Proofs.Ytmengjdjjnhajaa
end

section
/- bytes.Repeat's plain law; what a disk's pages are. -/
namespace Go.Proofs.Ytmengjdjjnhajaa
open Go Go.Proofs.AM

theorem ishr32 {x : Int} (h : 0 ≤ x) : ishr .u64 x 32 = x / 4294967296 := by
  unfold ishr
  rw [Int.fdiv_eq_ediv_of_nonneg _ (by decide)]
  rfl

theorem iand32 {x : Int} (h : 0 ≤ x) (h2 : x < 18446744073709551616) : iand .u64 x 4294967295 = x % 4294967296 := by
  unfold iand
  obtain ⟨n, rfl⟩ := Int.eq_ofNat_of_zero_le h
  have e1 : (BitVec.ofInt (IntKind.bits .u64) (n : Int) &&& BitVec.ofInt (IntKind.bits .u64) 4294967295).toNat = n % 4294967296 := by
    rw [BitVec.toNat_and]
    have a1 : (BitVec.ofInt (IntKind.bits .u64) (n : Int)).toNat = n := by
      have : IntKind.bits .u64 = 64 := rfl
      rw [this, BitVec.toNat_ofInt]
      omega
    have a2 : (BitVec.ofInt (IntKind.bits .u64) 4294967295).toNat = 2 ^ 32 - 1 := by decide
    rw [a1, a2, Nat.and_two_pow_sub_one_eq_mod]
  rw [e1, wrapU64 (by omega) (by omega)]
  omega

theorem m57_eq {x y : Int} (hx : 0 ≤ x) (hx2 : x < 9223372036854775808) (hy : 0 ≤ y) (hy2 : y < 4294967296) (hxy : x * y < 9223372036854775808) : m57 (x, (y, ())) = some (0, (x * y, ())) := by
  have hyd : y / 4294967296 = 0 := by omega
  have hym : y % 4294967296 = y := by omega
  unfold m57
  simp only [ishr32 hx, ishr32 hy, iand32 hx (by omega), iand32 hy (by omega), hyd, hym]
  have hA : 0 ≤ (x / 4294967296) * y := Int.mul_nonneg (by omega) hy
  have hB : 0 ≤ (x % 4294967296) * y := Int.mul_nonneg (by omega) hy
  have hs : x * y = (x / 4294967296) * y * 4294967296 + (x % 4294967296) * y := by
    have : x = (x / 4294967296) * 4294967296 + x % 4294967296 := by omega
    conv => lhs; rw [this, Int.add_mul]
    rw [Int.mul_assoc, Int.mul_assoc, Int.mul_comm 4294967296 y]
  generalize (x / 4294967296) * y = A at *
  generalize (x % 4294967296) * y = B at *
  simp only [Int.mul_zero]
  have w0 : ∀ n : Int, 0 ≤ n → n < 18446744073709551616 → IntKind.wrap .u64 n = n := fun n a b => wrapU64 a b
  rw [w0 A (by omega) (by omega), w0 B (by omega) (by omega), ishr32 hB, w0 0 (by omega) (by omega)]
  have ht : 0 ≤ A + B / 4294967296 ∧ A + B / 4294967296 < 4294967296 := by omega
  rw [w0 (A + B / 4294967296) (by omega) (by omega), ishr32 ht.1, iand32 ht.1 (by omega)]
  have h0 : (A + B / 4294967296) / 4294967296 = 0 := by omega
  have h1 : (A + B / 4294967296) % 4294967296 = A + B / 4294967296 := by omega
  rw [h0, h1]
  simp only [Int.add_zero]
  rw [w0 0 (by omega) (by omega), w0 (A + B / 4294967296) (by omega) (by omega), ishr32 ht.1, h0]
  simp only [Int.add_zero]
  rw [w0 0 (by omega) (by omega), w0 (x * y) (by omega) (by omega)]

theorem m52_eq {x y : Int} (hx : 0 ≤ x) (hx2 : x < 9223372036854775808) (hy : 0 ≤ y) (hy2 : y < 4294967296) (hxy : x * y < 9223372036854775808) : m52 (x, (y, ())) = some (0, (x * y, ())) := by
  unfold m52
  rw [m57_eq hx hx2 hy hy2 hxy]
  rfl

/-- A list over and over, so far. -/
def cyc (xs : List Int) (N : Nat) : List Int := (List.range N).map fun i => xs.getD (i % xs.length) 0

theorem cyc_len (xs : List Int) (N : Nat) : (cyc xs N).length = N := by simp [cyc]

theorem cyc_take (xs : List Int) {n N : Nat} (h : n ≤ N) : (cyc xs N).take n = cyc xs n := by
  unfold cyc
  rw [← List.map_take, List.take_range, Nat.min_eq_left h]

theorem cyc_of {xs l : List Int} {N : Nat} (h1 : l.length = N) (h2 : ∀ j, j < N → l.getD j 0 = xs.getD (j % xs.length) 0) : l = cyc xs N := by
  apply List.ext_getElem?
  intro j
  by_cases hj : j < N
  · have := h2 j hj
    unfold cyc
    rw [List.getElem?_map, List.getElem?_range hj, List.getElem?_eq_getElem (by omega)]
    rw [List.getD_eq_getElem?_getD, List.getElem?_eq_getElem (by omega)] at this
    simp only [Option.map_some, Option.some.injEq]
    simpa using this
  · rw [List.getElem?_eq_none (by omega), List.getElem?_eq_none (by rw [cyc_len]; omega)]

theorem cyc_one (xs : List Int) : cyc xs xs.length = xs := (cyc_of rfl fun j hj => by rw [Nat.mod_eq_of_lt hj]).symm

theorem getD_app (a b : List Int) (j : Nat) : (a ++ b).getD j 0 = if j < a.length then a.getD j 0 else b.getD (j - a.length) 0 := by
  simp only [List.getD_eq_getElem?_getD]
  by_cases h : j < a.length
  · rw [if_pos h, List.getElem?_append_left h]
  · rw [if_neg h, List.getElem?_append_right (by omega)]

theorem grow_law {l : List Int} {b N : Nat} (hl : l.length = N) (hb : b ≤ N) :
    ((l.take b ++ (l.take b).take (N - b)) ++ l.drop (b + min b (N - b))).length = N ∧
      ∀ j, j < b + min b (N - b) → ((l.take b ++ (l.take b).take (N - b)) ++ l.drop (b + min b (N - b))).getD j 0 = if j < b then l.getD j 0 else l.getD (j - b) 0 := by
  have e1 : (l.take b).length = b := by simp; omega
  have e2 : ((l.take b).take (N - b)).length = min b (N - b) := by rw [List.length_take, e1, Nat.min_comm]
  refine ⟨by rw [List.length_append, List.length_append, e1, e2, List.length_drop]; omega, fun j hj => ?_⟩
  have ht : ∀ (m i : Nat) (l : List Int), i < m → (l.take m).getD i 0 = l.getD i 0 := fun m i l h => by
    simp only [List.getD_eq_getElem?_getD]; rw [List.getElem?_take, if_pos h]
  rw [getD_app, List.length_append, e1, e2, if_pos (by omega), getD_app, e1]
  by_cases h : j < b
  · rw [if_pos h, if_pos h, ht _ _ _ h]
  · rw [if_neg h, if_neg h, ht _ _ _ (by omega), ht _ _ _ (by omega)]

theorem eq_of_Ok {A : Type} {o : Option A} {v : A} (h : Ok o (fun r => r = v)) : o = some v := by
  obtain ⟨r, e, rfl⟩ := h; exact e

theorem m28_ok (xs : List Int) (n : Nat) (hx : 0 < xs.length) (hn : 0 < n) (hb : xs.length * n ≤ 140737488355328) (hc : xs.length * n ≤ 8192 ∨ n = 1) (hn2 : n < 4294967296) : m28 (xs, ((n : Int), ())) = some (cyc xs (xs.length * n), ()) := by
  have hL : xs.length ≤ xs.length * n := Nat.le_mul_of_pos_right _ hn
  obtain ⟨N, hN⟩ : ∃ N, N = xs.length * n := ⟨_, rfl⟩
  have hNi : (xs.length : Int) * (n : Int) = (N : Int) := by rw [hN]; simp
  rw [← hN]
  apply eq_of_Ok
  unfold m28
  refine Ok.cond (fun h => by have h : (n : Int) = 0 := h; omega) fun _ => ?_
  refine Ok.cond (fun h => by have h : (n : Int) < 0 := h; omega) fun _ => ?_
  have e0 : IntKind.wrap .u64 (((xs.length : Nat) : Int)) = xs.length := wrapU64 (by omega) (by omega)
  have e1 : IntKind.wrap .u64 ((n : Nat) : Int) = n := wrapU64 (by omega) (by omega)
  refine Ok.bind (S := fun y => y = (0, ((N : Int), ()))) (Ok.of (r := (0, ((N : Int), ()))) ?_ rfl) ?_
  · show m52 (IntKind.wrap .u64 (((xs.length : Nat) : Int)), (IntKind.wrap .u64 ((n : Nat) : Int), ())) = _
    rw [e0, e1, m52_eq (by omega) (by omega) (by omega) (by omega) (by rw [hNi]; omega), hNi]
  rintro _ rfl
  have e2 : IntKind.wrap .i64 ((N : Nat) : Int) = N := wrap64 (by omega) (by omega)
  refine Ok.cond (fun h => by have h : (0 : Int) > 0 := h; omega) fun _ => ?_
  refine Ok.cond (fun h => by have h : (N : Int) > 9223372036854775807 := h; omega) fun _ => ?_
  refine Ok.cond (fun h => by have h : ((xs.length : Nat) : Int) = 0 := h; omega) fun _ => ?_
  simp only [e2]
  -- where the loop is over at once
  have over : ∀ (f : (Int × List Int) → Option ((Int × List Int) ⊕ List Int)) (u : List Int), N = xs.length → (u.length : Int) = N → (∀ x, ¬ x.1 < (N : Int) → f x = some (.inr x.2)) →
      Option.bind (loopM f ((((min (List.length xs) (Int.toNat (N : Int))) : Nat) : Int), ((List.take 0 u) ++ (List.take (Int.toNat (N : Int)) xs)) ++ (List.drop (0 + (min (List.length xs) (Int.toNat (N : Int)))) u))) (fun y3 : List Int => some ((List.take (Int.toNat (N : Int)) (List.drop 0 y3)), ())) = some (cyc xs N, ()) := by
    intro f u h1 h2 hf
    have a1 : Int.toNat (N : Int) = N := by omega
    rw [loopM_eq, hf _ (by simp [a1]; omega)]
    simp only [Option.bind_some, a1, Nat.zero_add, List.take_zero, List.nil_append, List.drop_zero, h1, Nat.min_self, List.take_length]
    rw [cyc_one, List.drop_eq_nil_of_le (by omega), List.append_nil]
    simp
  refine Ok.cond (fun h => ?_) fun h => ?_
  · have h1 : n = 1 := by have h : (N : Int) > 8192 := h; omega
    have h2 : N = xs.length := by rw [hN, h1, Nat.mul_one]
    refine Ok.ite (fun h => by have h : ((xs.length : Nat) : Int) = 0 := h; omega) fun _ => ?_
    refine Ok.cond (fun _ => ?_) fun _ => ?_
    all_goals
      refine Ok.gd (by omega) (Ok.gd (by omega) (Ok.of (r := (cyc xs N, ())) (anyBytes_eq (by omega) fun u hu => ?_) rfl))
      rw [gd_pos (by omega), gd_pos (by omega), gd_pos (by omega)]
      refine over _ u h2 hu fun x hx => ?_
      rw [decide_eq_false hx]; rfl
  · refine Ok.gd (by omega) (Ok.gd (by omega) (Ok.of (r := (cyc xs N, ())) (anyBytes_eq (by omega) fun u hu => ?_) rfl))
    rw [gd_pos (by omega), gd_pos (by omega), gd_pos (by omega)]
    have a1 : Int.toNat (N : Int) = N := by omega
    apply eq_of_Ok
    refine Ok.bind (S := fun l => l = cyc xs N) (Ok.loop N (fun i x => ∃ b : Nat, x.1 = b ∧ i ≤ b ∧ xs.length ≤ b ∧ b ≤ N ∧ xs.length ∣ b ∧ x.2.length = N ∧ ∀ j, j < b → x.2.getD j 0 = xs.getD (j % xs.length) 0) ?_ ?_) ?_
    · refine ⟨xs.length, by simp [a1]; omega, by omega, by omega, by omega, Nat.dvd_refl _, ?_, fun j hj => ?_⟩
      · simp [a1]; omega
      · simp only [a1, Nat.zero_add, List.take_zero, List.nil_append]
        rw [List.take_of_length_le (by omega), getD_app, if_pos hj, Nat.mod_eq_of_lt hj]
    · rintro i ⟨x1, l⟩ hi ⟨b, rfl, hib, hLb, hbN, hdv, hlen, hall⟩
      dsimp only at hlen hall ⊢
      refine Ok.cond (fun hlt => ?_) fun hge => ?_
      · have hlt : b < N := by omega
        have a2 : Int.toNat (b : Int) = b := by omega
        have a3 : (if (N : Int) < (b : Int) then (N : Int) else (b : Int)) = b := if_neg (by omega)
        simp only [a1, a2, a3]
        refine Ok.gd (by omega) (Ok.gd (by omega) (Ok.gd (by omega) (Ok.gd (by omega) (Ok.gd (by omega) (Ok.inl ?_)))))
        have hmin : min (List.length (List.take (b - Int.toNat 0) (List.drop (0 + Int.toNat 0) l))) (N - b) = min b (N - b) := by simp; omega
        refine ⟨by omega, b + min b (N - b), ?_, by omega, by omega, by omega, ?_, ?_, ?_⟩
        · dsimp only
          rw [hmin, wrap64 (by omega) (by omega)]; omega
        · refine Nat.dvd_add hdv ?_
          have hd2 : xs.length ∣ N - b := Nat.dvd_sub (by rw [hN]; exact Nat.dvd_mul_right _ _) hdv
          rcases Nat.le_total b (N - b) with h | h
          · rw [Nat.min_eq_left h]; exact hdv
          · rw [Nat.min_eq_right h]; exact hd2
        · dsimp only
          rw [hmin]
          simp only [Int.toNat_zero, Nat.add_zero, Nat.zero_add, Nat.sub_zero, List.drop_zero]
          exact (grow_law hlen (by omega)).1
        · intro j hj
          dsimp only
          rw [hmin]
          simp only [Int.toNat_zero, Nat.add_zero, Nat.zero_add, Nat.sub_zero, List.drop_zero]
          rw [(grow_law hlen (by omega)).2 j hj]
          by_cases hjb : j < b
          · rw [if_pos hjb, hall j hjb]
          · rw [if_neg hjb, hall (j - b) (by omega)]
            obtain ⟨q, hq⟩ := hdv
            have : j = (j - b) + xs.length * q := by omega
            conv => rhs; rw [this, Nat.add_mul_mod_self_left]
      · have : b = N := by omega
        subst this
        exact Ok.inr (cyc_of hlen hall)
    · rintro _ rfl
      refine Ok.some ?_
      rw [List.drop_zero, a1, List.take_of_length_le (by rw [cyc_len]; omega)]

/-- The bytes that are handed in: a sector's, over and over. -/
def full (b : List Int) : List Int := cyc b 256

theorem full_len (b : List Int) : (full b).length = 256 := cyc_len _ _

theorem m12_eq (a s : Int) (b : List Int) (hb : 0 < b.length) (hb2 : b.length ≤ 140737488355328) : m12 ((a, (s, (b, false))), ()) = some (full b, ()) := by
  apply eq_of_Ok
  unfold m12
  refine Ok.cond (fun h => by have h : ((b.length : Nat) : Int) = 0 := h; omega) fun _ => ?_
  refine Ok.ite (fun h => by have h : ((b.length : Nat) : Int) = 0 := h; omega) fun _ => ?_
  have hq : Int.tdiv 256 ((b.length : Nat) : Int) = ((256 / b.length : Nat) : Int) := by
    rw [Int.tdiv_eq_ediv_of_nonneg (by omega)]; simp
  have hd : 256 / b.length ≤ 256 := Nat.div_le_self _ _
  have hm : b.length * (256 / b.length) ≤ 256 := Nat.mul_div_le _ _
  have hr : 256 < b.length * (256 / b.length + 1) := by
    have := Nat.lt_mul_div_succ 256 hb
    simpa using this
  have hz : ¬ b.length ≤ 256 → 256 / b.length = 0 := fun h => Nat.div_eq_of_lt (by omega)
  generalize 256 / b.length = q at *
  have hmul : b.length * (q + 1) = b.length * q + b.length := by rw [Nat.mul_add, Nat.mul_one]
  have hw : IntKind.wrap .i64 (IntKind.wrap .i64 (Int.tdiv 256 ((b.length : Nat) : Int)) + 1) = ((q + 1 : Nat) : Int) := by
    rw [hq, wrap64 (n := (q : Int)) (by omega) (by omega), wrap64 (by omega) (by omega)]; omega
  refine Ok.bind (S := fun y => y = (cyc b (b.length * (q + 1)), ())) (Ok.of (r := (cyc b (b.length * (q + 1)), ())) ?_ rfl) ?_
  · show m28 (b, (IntKind.wrap .i64 (IntKind.wrap .i64 (Int.tdiv 256 ((b.length : Nat) : Int)) + 1), ())) = _
    rw [hw]
    refine m28_ok b _ hb (by omega) ?_ ?_ (by omega)
    · by_cases h : b.length ≤ 256
      · omega
      · rw [hz h]; omega
    · by_cases h : b.length ≤ 256
      · left; omega
      · right; rw [hz h]
  rintro _ rfl
  refine Ok.gd (by rw [cyc_len]; omega) (Ok.some ?_)
  show ((cyc b (b.length * (q + 1))).take 256, ()) = _
  rw [cyc_take b (by omega)]
  rfl
end Go.Proofs.Ytmengjdjjnhajaa
end

section
/- What function 38 ((*slipway/slipwayref09.Disk).there) computes, by the kernel. -/
open Go Go.Proofs.AM
namespace Go.Proofs.Ytmengjdjjnhajaa

noncomputable def m38 (x : ((List (List Int)) × ((List Bool) × (Bool × (Bool × (Int × (Int × (List (Int × (List Int))))))))) × Int × Unit) : Option (Bool × Unit) :=
  bif (decide (x.2.1 ≥ (0 : Int))) then
    (some ((decide (x.2.1 < (((List.length x.1.1) : Nat) : Int))), ()))
  else
    (some (false, ()))

noncomputable def r38 : PDen [(false, (.rp (.pair (.sl (.sl (.int .u8))) (.pair (.sl .bool) (.pair .bool (.pair .bool (.pair (.int .i64) (.pair (.int .i64) (.sl (.pair (.int .i64) (.sl (.int .u8)))))))))))), (false, (.int .i64))] → Option (PDen [(false, .bool)]) := fun x => afun Try.prog (envOf [] [] [] []) ⟨[], []⟩ Try.f38 [(false, (.rp (.pair (.sl (.sl (.int .u8))) (.pair (.sl .bool) (.pair .bool (.pair .bool (.pair (.int .i64) (.pair (.int .i64) (.sl (.pair (.int .i64) (.sl (.int .u8)))))))))))), (false, (.int .i64))] [(false, .bool)] false x
theorem r38_eq : r38 = m38 := by kernel_rfl

theorem c38 : CS.Sound Try.prog 38 ⟨[(false, (.rp (.pair (.sl (.sl (.int .u8))) (.pair (.sl .bool) (.pair .bool (.pair .bool (.pair (.int .i64) (.pair (.int .i64) (.sl (.pair (.int .i64) (.sl (.int .u8)))))))))))), (false, (.int .i64))], [(false, .bool)], false, m38⟩ := afun_sound' (envOf_sound (CSs.nil) (HDs.nil) (IDs.nil)) rfl Try.follows (f := 38) (fn := Try.f38) Try.func38 (by kernel_rfl) (by kernel_rfl) r38_eq
end Go.Proofs.Ytmengjdjjnhajaa
end

section
/- What function 39 (slipway/slipwayref09.copied) computes, by the kernel. -/
open Go Go.Proofs.AM
namespace Go.Proofs.Ytmengjdjjnhajaa

noncomputable def m39 (x : (List Int) × Unit) : Option ((List Int) × Unit) :=
  gd ((((List.length ([] : List Int)) + (List.length x.1)) * 1) ≤ 140737488355328) (gd (((List.length ([] : List Int)) + (List.length x.1)) ≤ 140737488355328) (some ((([] : List Int) ++ x.1), ())))

noncomputable def r39 : PDen [(false, (.sl (.int .u8)))] → Option (PDen [(false, (.sl (.int .u8)))]) := fun x => afun Try.prog (envOf [] [] [] []) ⟨[], []⟩ Try.f39 [(false, (.sl (.int .u8)))] [(false, (.sl (.int .u8)))] false x
theorem r39_eq : r39 = m39 := by kernel_rfl

theorem c39 : CS.Sound Try.prog 39 ⟨[(false, (.sl (.int .u8)))], [(false, (.sl (.int .u8)))], false, m39⟩ := afun_sound' (envOf_sound (CSs.nil) (HDs.nil) (IDs.nil)) rfl Try.follows (f := 39) (fn := Try.f39) Try.func39 (by kernel_rfl) (by kernel_rfl) r39_eq
end Go.Proofs.Ytmengjdjjnhajaa
end

section
/- What function 15 ((*slipway/slipwayref09.Disk).Write) computes, by the kernel. -/
open Go Go.Proofs.AM
namespace Go.Proofs.Ytmengjdjjnhajaa

noncomputable def m15 (x : ((List (List Int)) × ((List Bool) × (Bool × (Bool × (Int × (Int × (List (Int × (List Int))))))))) × Int × (List Int) × Unit) : Option (((List (List Int)) × ((List Bool) × (Bool × (Bool × (Int × (Int × (List (Int × (List Int))))))))) × (Int × Unit)) :=
  bif x.1.2.2.1 then
    (some (x.1, ((8 : Int), ())))
  else
    (Option.bind (m38 (x.1, (x.2.1, ()))) fun (y1 : (Bool × Unit)) =>
    bif (!y1.1) then
      (some (x.1, ((1 : Int), ())))
    else
      (bif (!(decide ((((List.length x.2.2.1) : Nat) : Int) = (256 : Int)))) then
        (some (x.1, ((1 : Int), ())))
      else
        (bif x.1.2.2.2.1 then
          (bif (decide (x.1.2.2.2.2.1 = (0 : Int))) then
            (some ((x.1.1, (x.1.2.1, (true, x.1.2.2.2))), ((8 : Int), ())))
          else
            (bif x.1.2.2.2.1 then
              (Option.bind (m39 (x.2.2.1, ())) fun (y2 : ((List Int) × Unit)) =>
              gd ((0 : Int) ≤ x.2.1) (gd (x.2.1 < (((List.length x.1.1) : Nat) : Int)) (gd ((Int.toNat x.2.1) < (List.length x.1.1)) (gd ((0 : Int) ≤ x.2.1) (gd (x.2.1 < (((List.length x.1.2.1) : Nat) : Int)) (gd ((Int.toNat x.2.1) < (List.length x.1.2.1)) (Option.bind (m39 (x.2.2.1, ())) fun (y3 : ((List Int) × Unit)) =>
                          gd ((((List.length x.1.2.2.2.2.2.2) + (List.length ((x.2.1, y3.1) :: ([] : List (Int × (List Int)))))) * 32) ≤ 140737488355328) (gd (((List.length x.1.2.2.2.2.2.2) + (List.length ((x.2.1, y3.1) :: ([] : List (Int × (List Int)))))) ≤ 140737488355328) (some (((List.set x.1.1 (Int.toNat x.2.1) y2.1), ((List.set x.1.2.1 (Int.toNat x.2.1) false), (x.1.2.2.1, (x.1.2.2.2.1, ((Go.IntKind.wrap .i64 (x.1.2.2.2.2.1 - (1 : Int))), ((Go.IntKind.wrap .i64 (x.1.2.2.2.2.2.1 + (1 : Int))), (x.1.2.2.2.2.2.2 ++ ((x.2.1, y3.1) :: ([] : List (Int × (List Int))))))))))), ((0 : Int), ())))))))))))
            else
              (Option.bind (m39 (x.2.2.1, ())) fun (y2 : ((List Int) × Unit)) =>
              gd ((0 : Int) ≤ x.2.1) (gd (x.2.1 < (((List.length x.1.1) : Nat) : Int)) (gd ((Int.toNat x.2.1) < (List.length x.1.1)) (gd ((0 : Int) ≤ x.2.1) (gd (x.2.1 < (((List.length x.1.2.1) : Nat) : Int)) (gd ((Int.toNat x.2.1) < (List.length x.1.2.1)) (Option.bind (m39 (x.2.2.1, ())) fun (y3 : ((List Int) × Unit)) =>
                          gd ((((List.length x.1.2.2.2.2.2.2) + (List.length ((x.2.1, y3.1) :: ([] : List (Int × (List Int)))))) * 32) ≤ 140737488355328) (gd (((List.length x.1.2.2.2.2.2.2) + (List.length ((x.2.1, y3.1) :: ([] : List (Int × (List Int)))))) ≤ 140737488355328) (some (((List.set x.1.1 (Int.toNat x.2.1) y2.1), ((List.set x.1.2.1 (Int.toNat x.2.1) false), (x.1.2.2.1, (x.1.2.2.2.1, (x.1.2.2.2.2.1, ((Go.IntKind.wrap .i64 (x.1.2.2.2.2.2.1 + (1 : Int))), (x.1.2.2.2.2.2.2 ++ ((x.2.1, y3.1) :: ([] : List (Int × (List Int))))))))))), ((0 : Int), ())))))))))))))
        else
          (bif x.1.2.2.2.1 then
            (Option.bind (m39 (x.2.2.1, ())) fun (y2 : ((List Int) × Unit)) =>
            gd ((0 : Int) ≤ x.2.1) (gd (x.2.1 < (((List.length x.1.1) : Nat) : Int)) (gd ((Int.toNat x.2.1) < (List.length x.1.1)) (gd ((0 : Int) ≤ x.2.1) (gd (x.2.1 < (((List.length x.1.2.1) : Nat) : Int)) (gd ((Int.toNat x.2.1) < (List.length x.1.2.1)) (Option.bind (m39 (x.2.2.1, ())) fun (y3 : ((List Int) × Unit)) =>
                        gd ((((List.length x.1.2.2.2.2.2.2) + (List.length ((x.2.1, y3.1) :: ([] : List (Int × (List Int)))))) * 32) ≤ 140737488355328) (gd (((List.length x.1.2.2.2.2.2.2) + (List.length ((x.2.1, y3.1) :: ([] : List (Int × (List Int)))))) ≤ 140737488355328) (some (((List.set x.1.1 (Int.toNat x.2.1) y2.1), ((List.set x.1.2.1 (Int.toNat x.2.1) false), (x.1.2.2.1, (x.1.2.2.2.1, ((Go.IntKind.wrap .i64 (x.1.2.2.2.2.1 - (1 : Int))), ((Go.IntKind.wrap .i64 (x.1.2.2.2.2.2.1 + (1 : Int))), (x.1.2.2.2.2.2.2 ++ ((x.2.1, y3.1) :: ([] : List (Int × (List Int))))))))))), ((0 : Int), ())))))))))))
          else
            (Option.bind (m39 (x.2.2.1, ())) fun (y2 : ((List Int) × Unit)) =>
            gd ((0 : Int) ≤ x.2.1) (gd (x.2.1 < (((List.length x.1.1) : Nat) : Int)) (gd ((Int.toNat x.2.1) < (List.length x.1.1)) (gd ((0 : Int) ≤ x.2.1) (gd (x.2.1 < (((List.length x.1.2.1) : Nat) : Int)) (gd ((Int.toNat x.2.1) < (List.length x.1.2.1)) (Option.bind (m39 (x.2.2.1, ())) fun (y3 : ((List Int) × Unit)) =>
                        gd ((((List.length x.1.2.2.2.2.2.2) + (List.length ((x.2.1, y3.1) :: ([] : List (Int × (List Int)))))) * 32) ≤ 140737488355328) (gd (((List.length x.1.2.2.2.2.2.2) + (List.length ((x.2.1, y3.1) :: ([] : List (Int × (List Int)))))) ≤ 140737488355328) (some (((List.set x.1.1 (Int.toNat x.2.1) y2.1), ((List.set x.1.2.1 (Int.toNat x.2.1) false), (x.1.2.2.1, (x.1.2.2.2.1, (x.1.2.2.2.2.1, ((Go.IntKind.wrap .i64 (x.1.2.2.2.2.2.1 + (1 : Int))), (x.1.2.2.2.2.2.2 ++ ((x.2.1, y3.1) :: ([] : List (Int × (List Int))))))))))), ((0 : Int), ())))))))))))))))

noncomputable def r15 : PDen ((true, (.pair (.sl (.sl (.int .u8))) (.pair (.sl .bool) (.pair .bool (.pair .bool (.pair (.int .i64) (.pair (.int .i64) (.sl (.pair (.int .i64) (.sl (.int .u8))))))))))) :: [(false, (.int .i64)), (false, (.sl (.int .u8)))]) → Option (PDen ((true, (.pair (.sl (.sl (.int .u8))) (.pair (.sl .bool) (.pair .bool (.pair .bool (.pair (.int .i64) (.pair (.int .i64) (.sl (.pair (.int .i64) (.sl (.int .u8))))))))))) :: [(false, (.int .i64))])) := fun x => afunIO Try.prog (envOf [(38, ⟨[(false, (.rp (.pair (.sl (.sl (.int .u8))) (.pair (.sl .bool) (.pair .bool (.pair .bool (.pair (.int .i64) (.pair (.int .i64) (.sl (.pair (.int .i64) (.sl (.int .u8)))))))))))), (false, (.int .i64))], [(false, .bool)], false, m38⟩), (39, ⟨[(false, (.sl (.int .u8)))], [(false, (.sl (.int .u8)))], false, m39⟩)] [] [] []) ⟨[], []⟩ Try.f15 49 (.pair (.sl (.sl (.int .u8))) (.pair (.sl .bool) (.pair .bool (.pair .bool (.pair (.int .i64) (.pair (.int .i64) (.sl (.pair (.int .i64) (.sl (.int .u8)))))))))) (.p (.s 32) (.p (.s 4) (.p .d (.p .d (.p .d (.p .d (.s 77))))))) [(false, (.int .i64)), (false, (.sl (.int .u8)))] [(false, (.int .i64))] x
theorem r15_eq : r15 = m15 := by kernel_rfl

theorem c15 : IOc.Sound Try.prog 15 ⟨49, (.pair (.sl (.sl (.int .u8))) (.pair (.sl .bool) (.pair .bool (.pair .bool (.pair (.int .i64) (.pair (.int .i64) (.sl (.pair (.int .i64) (.sl (.int .u8)))))))))), (.p (.s 32) (.p (.s 4) (.p .d (.p .d (.p .d (.p .d (.s 77))))))), [(false, (.int .i64)), (false, (.sl (.int .u8)))], [(false, (.int .i64))], m15⟩ := afunIO_sound' (envOf_sound (CSs.cons c38 (CSs.cons c39 (CSs.nil))) (HDs.nil) (IDs.nil)) rfl Try.follows (f := 15) (fn := Try.f15) Try.func15 (by kernel_rfl) (by kernel_rfl) r15_eq
end Go.Proofs.Ytmengjdjjnhajaa
end

section
/- What function 13 ((*slipway/slipwayref09.Disk).Size) computes, by the kernel. -/
open Go Go.Proofs.AM
namespace Go.Proofs.Ytmengjdjjnhajaa

noncomputable def m13 (x : ((List (List Int)) × ((List Bool) × (Bool × (Bool × (Int × (Int × (List (Int × (List Int))))))))) × Unit) : Option (Int × Unit) :=
  some ((((List.length x.1.1) : Nat) : Int), ())

noncomputable def r13 : PDen [(false, (.rp (.pair (.sl (.sl (.int .u8))) (.pair (.sl .bool) (.pair .bool (.pair .bool (.pair (.int .i64) (.pair (.int .i64) (.sl (.pair (.int .i64) (.sl (.int .u8))))))))))))] → Option (PDen [(false, (.int .i64))]) := fun x => afun Try.prog (envOf [] [] [] []) ⟨[], []⟩ Try.f13 [(false, (.rp (.pair (.sl (.sl (.int .u8))) (.pair (.sl .bool) (.pair .bool (.pair .bool (.pair (.int .i64) (.pair (.int .i64) (.sl (.pair (.int .i64) (.sl (.int .u8))))))))))))] [(false, (.int .i64))] false x
theorem r13_eq : r13 = m13 := by kernel_rfl

theorem c13 : CS.Sound Try.prog 13 ⟨[(false, (.rp (.pair (.sl (.sl (.int .u8))) (.pair (.sl .bool) (.pair .bool (.pair .bool (.pair (.int .i64) (.pair (.int .i64) (.sl (.pair (.int .i64) (.sl (.int .u8))))))))))))], [(false, (.int .i64))], false, m13⟩ := afun_sound' (envOf_sound (CSs.nil) (HDs.nil) (IDs.nil)) rfl Try.follows (f := 13) (fn := Try.f13) Try.func13 (by kernel_rfl) (by kernel_rfl) r13_eq
end Go.Proofs.Ytmengjdjjnhajaa
end

section
/- What function 40 ((*slipway/slipwayref09.Disk).Read) computes, by the kernel. -/
open Go Go.Proofs.AM
namespace Go.Proofs.Ytmengjdjjnhajaa

noncomputable def m40 (x : ((List (List Int)) × ((List Bool) × (Bool × (Bool × (Int × (Int × (List (Int × (List Int))))))))) × Int × Unit) : Option ((List Int) × (Int × Unit)) :=
  bif x.1.2.2.1 then
    (some (([] : List Int), ((8 : Int), ())))
  else
    (Option.bind (m38 (x.1, (x.2.1, ()))) fun (y1 : (Bool × Unit)) =>
    bif (!y1.1) then
      (some (([] : List Int), ((1 : Int), ())))
    else
      (gd ((0 : Int) ≤ x.2.1) (gd (x.2.1 < (((List.length x.1.2.1) : Nat) : Int)) (bif (List.getD x.1.2.1 (Int.toNat x.2.1) false) then
            (some (([] : List Int), ((80 : Int), ())))
          else
            (gd ((0 : Int) ≤ x.2.1) (gd (x.2.1 < (((List.length x.1.1) : Nat) : Int)) (Option.bind (m39 ((List.getD x.1.1 (Int.toNat x.2.1) ([] : List Int)), ())) fun (y2 : ((List Int) × Unit)) =>
                some (y2.1, ((0 : Int), ())))))))))

noncomputable def r40 : PDen [(false, (.rp (.pair (.sl (.sl (.int .u8))) (.pair (.sl .bool) (.pair .bool (.pair .bool (.pair (.int .i64) (.pair (.int .i64) (.sl (.pair (.int .i64) (.sl (.int .u8)))))))))))), (false, (.int .i64))] → Option (PDen [(false, (.sl (.int .u8))), (false, (.int .i64))]) := fun x => afun Try.prog (envOf [(38, ⟨[(false, (.rp (.pair (.sl (.sl (.int .u8))) (.pair (.sl .bool) (.pair .bool (.pair .bool (.pair (.int .i64) (.pair (.int .i64) (.sl (.pair (.int .i64) (.sl (.int .u8)))))))))))), (false, (.int .i64))], [(false, .bool)], false, m38⟩), (39, ⟨[(false, (.sl (.int .u8)))], [(false, (.sl (.int .u8)))], false, m39⟩)] [] [] []) ⟨[], []⟩ Try.f40 [(false, (.rp (.pair (.sl (.sl (.int .u8))) (.pair (.sl .bool) (.pair .bool (.pair .bool (.pair (.int .i64) (.pair (.int .i64) (.sl (.pair (.int .i64) (.sl (.int .u8)))))))))))), (false, (.int .i64))] [(false, (.sl (.int .u8))), (false, (.int .i64))] false x
theorem r40_eq : r40 = m40 := by kernel_rfl

theorem c40 : CS.Sound Try.prog 40 ⟨[(false, (.rp (.pair (.sl (.sl (.int .u8))) (.pair (.sl .bool) (.pair .bool (.pair .bool (.pair (.int .i64) (.pair (.int .i64) (.sl (.pair (.int .i64) (.sl (.int .u8)))))))))))), (false, (.int .i64))], [(false, (.sl (.int .u8))), (false, (.int .i64))], false, m40⟩ := afun_sound' (envOf_sound (CSs.cons c38 (CSs.cons c39 (CSs.nil))) (HDs.nil) (IDs.nil)) rfl Try.follows (f := 40) (fn := Try.f40) Try.func40 (by kernel_rfl) (by kernel_rfl) r40_eq
end Go.Proofs.Ytmengjdjjnhajaa
end

section
/- What function 18 (slipway/slipwayref09.Image) computes, by the kernel. -/
open Go Go.Proofs.AM
namespace Go.Proofs.Ytmengjdjjnhajaa

noncomputable def m18 (x : ((List (List Int)) × ((List Bool) × (Bool × (Bool × (Int × (Int × (List (Int × (List Int))))))))) × Unit) : Option ((List (List Int)) × (Int × Unit)) :=
  Option.bind (loopM (X := ((List (List Int)) × Int)) (E := ((List (List Int)) ⊕ ((List (List Int)) × Int))) (fun (x1 : ((List (List Int)) × Int)) =>
      Option.bind (m13 (x.1, ())) fun (y2 : (Int × Unit)) =>
      bif (decide (x1.2 < y2.1)) then
        (Option.bind (m40 (x.1, (x1.2, ()))) fun (y3 : ((List Int) × (Int × Unit))) =>
        bif (!(decide (y3.2.1 = (0 : Int)))) then
          (some (Sum.inr (Sum.inr (([] : List (List Int)), y3.2.1))))
        else
          (gd ((((List.length x1.1) + (List.length (y3.1 :: ([] : List (List Int))))) * 24) ≤ 140737488355328) (gd (((List.length x1.1) + (List.length (y3.1 :: ([] : List (List Int))))) ≤ 140737488355328) (some (Sum.inl ((x1.1 ++ (y3.1 :: ([] : List (List Int)))), (Go.IntKind.wrap .i64 (x1.2 + (1 : Int)))))))))
      else
        (some (Sum.inr (Sum.inl x1.1)))) (([] : List (List Int)), (0 : Int))) fun (y1 : ((List (List Int)) ⊕ ((List (List Int)) × Int))) =>
  Sum.elim (fun y2 =>
    some (y2, ((0 : Int), ()))) (fun y2 =>
    some (y2.1, (y2.2, ()))) y1

noncomputable def r18 : PDen [(false, (.rp (.pair (.sl (.sl (.int .u8))) (.pair (.sl .bool) (.pair .bool (.pair .bool (.pair (.int .i64) (.pair (.int .i64) (.sl (.pair (.int .i64) (.sl (.int .u8))))))))))))] → Option (PDen [(false, (.sl (.sl (.int .u8)))), (false, (.int .i64))]) := fun x => afun Try.prog (envOf [(13, ⟨[(false, (.rp (.pair (.sl (.sl (.int .u8))) (.pair (.sl .bool) (.pair .bool (.pair .bool (.pair (.int .i64) (.pair (.int .i64) (.sl (.pair (.int .i64) (.sl (.int .u8))))))))))))], [(false, (.int .i64))], false, m13⟩), (40, ⟨[(false, (.rp (.pair (.sl (.sl (.int .u8))) (.pair (.sl .bool) (.pair .bool (.pair .bool (.pair (.int .i64) (.pair (.int .i64) (.sl (.pair (.int .i64) (.sl (.int .u8)))))))))))), (false, (.int .i64))], [(false, (.sl (.int .u8))), (false, (.int .i64))], false, m40⟩)] [] [] []) ⟨[(0, ⟨[.slot 4 (.v 32 (.sl (.int .u8)) true), .slot 5 (.d false (.int .i64) true)], [], [(some 0, [.slot 4 (.v 32 (.sl (.int .u8)) true)]), (none, [.slot 2 (.d false (.sl (.sl (.int .u8))) true), .slot 3 (.d false (.int .i64) true)])], none⟩)], []⟩ Try.f18 [(false, (.rp (.pair (.sl (.sl (.int .u8))) (.pair (.sl .bool) (.pair .bool (.pair .bool (.pair (.int .i64) (.pair (.int .i64) (.sl (.pair (.int .i64) (.sl (.int .u8))))))))))))] [(false, (.sl (.sl (.int .u8)))), (false, (.int .i64))] false x
theorem r18_eq : r18 = m18 := by kernel_rfl

theorem c18 : CS.Sound Try.prog 18 ⟨[(false, (.rp (.pair (.sl (.sl (.int .u8))) (.pair (.sl .bool) (.pair .bool (.pair .bool (.pair (.int .i64) (.pair (.int .i64) (.sl (.pair (.int .i64) (.sl (.int .u8))))))))))))], [(false, (.sl (.sl (.int .u8)))), (false, (.int .i64))], false, m18⟩ := afun_sound' (envOf_sound (CSs.cons c13 (CSs.cons c40 (CSs.nil))) (HDs.nil) (IDs.nil)) rfl Try.follows (f := 18) (fn := Try.f18) Try.func18 (by kernel_rfl) (by kernel_rfl) r18_eq
end Go.Proofs.Ytmengjdjjnhajaa
end

section
/- What function 19 (slipway/slipwayref09.SameImage) computes, by the kernel. -/
open Go Go.Proofs.AM
namespace Go.Proofs.Ytmengjdjjnhajaa

noncomputable def m19 (x : (List (List Int)) × (List (List Int)) × Unit) : Option (Bool × Unit) :=
  bif (!(decide ((((List.length x.1) : Nat) : Int) = (((List.length x.2.1) : Nat) : Int)))) then
    (some (false, ()))
  else
    (Option.bind (loopM (X := Int) (E := (Unit ⊕ Bool)) (fun (x1 : Int) =>
        bif (decide (x1 < (((List.length x.1) : Nat) : Int))) then
          (gd ((0 : Int) ≤ x1) (gd (x1 < (((List.length x.1) : Nat) : Int)) (gd ((0 : Int) ≤ x1) (gd (x1 < (((List.length x.2.1) : Nat) : Int)) (bif (!(streq (Go.strOfNums (List.getD x.1 (Int.toNat x1) ([] : List Int))) (Go.strOfNums (List.getD x.2.1 (Int.toNat x1) ([] : List Int))))) then
                    (some (Sum.inr (Sum.inr false)))
                  else
                    (some (Sum.inl (Go.IntKind.wrap .i64 (x1 + (1 : Int))))))))))
        else
          (some (Sum.inr (Sum.inl ())))) (0 : Int)) fun (y1 : (Unit ⊕ Bool)) =>
    Sum.elim (fun y2 =>
      some (true, ())) (fun y2 =>
      some (y2, ())) y1)

noncomputable def r19 : PDen [(false, (.sl (.sl (.int .u8)))), (false, (.sl (.sl (.int .u8))))] → Option (PDen [(false, .bool)]) := fun x => afun Try.prog (envOf [] [] [] []) ⟨[(0, ⟨[.slot 5 (.d false (.int .i64) true)], [], [(some 0, []), (none, [.slot 4 (.d false .bool true)])], none⟩)], []⟩ Try.f19 [(false, (.sl (.sl (.int .u8)))), (false, (.sl (.sl (.int .u8))))] [(false, .bool)] false x
theorem r19_eq : r19 = m19 := by kernel_rfl

theorem c19 : CS.Sound Try.prog 19 ⟨[(false, (.sl (.sl (.int .u8)))), (false, (.sl (.sl (.int .u8))))], [(false, .bool)], false, m19⟩ := afun_sound' (envOf_sound (CSs.nil) (HDs.nil) (IDs.nil)) rfl Try.follows (f := 19) (fn := Try.f19) Try.func19 (by kernel_rfl) (by kernel_rfl) r19_eq
end Go.Proofs.Ytmengjdjjnhajaa
end

section
/- What function 22 ((*slipway/disk.RAM).Size) computes, by the kernel. -/
open Go Go.Proofs.AM
namespace Go.Proofs.Ytmengjdjjnhajaa

noncomputable def m22 (x : ((List (List Int)) × ((List Bool) × (Bool × (Bool × (Int × (Int × (List (Int × (List Int))))))))) × Unit) : Option (Int × Unit) :=
  Option.bind (m34 (x.1, ())) fun (y1 : (Bool × Unit)) =>
  bif y1.1 then
    (some ((0 : Int), ()))
  else
    (some ((((List.length x.1.1) : Nat) : Int), ()))

noncomputable def r22 : PDen [(false, (.rp (.pair (.sl (.sl (.int .u8))) (.pair (.sl .bool) (.pair .bool (.pair .bool (.pair (.int .i64) (.pair (.int .i64) (.sl (.pair (.int .i64) (.sl (.int .u8))))))))))))] → Option (PDen [(false, (.int .i64))]) := fun x => afun Try.prog (envOf [(34, ⟨[(false, (.rp (.pair (.sl (.sl (.int .u8))) (.pair (.sl .bool) (.pair .bool (.pair .bool (.pair (.int .i64) (.pair (.int .i64) (.sl (.pair (.int .i64) (.sl (.int .u8))))))))))))], [(false, .bool)], false, m34⟩)] [] [] []) ⟨[], []⟩ Try.f22 [(false, (.rp (.pair (.sl (.sl (.int .u8))) (.pair (.sl .bool) (.pair .bool (.pair .bool (.pair (.int .i64) (.pair (.int .i64) (.sl (.pair (.int .i64) (.sl (.int .u8))))))))))))] [(false, (.int .i64))] false x
theorem r22_eq : r22 = m22 := by kernel_rfl

theorem c22 : CS.Sound Try.prog 22 ⟨[(false, (.rp (.pair (.sl (.sl (.int .u8))) (.pair (.sl .bool) (.pair .bool (.pair .bool (.pair (.int .i64) (.pair (.int .i64) (.sl (.pair (.int .i64) (.sl (.int .u8))))))))))))], [(false, (.int .i64))], false, m22⟩ := afun_sound' (envOf_sound (CSs.cons c34 (CSs.nil)) (HDs.nil) (IDs.nil)) rfl Try.follows (f := 22) (fn := Try.f22) Try.func22 (by kernel_rfl) (by kernel_rfl) r22_eq
end Go.Proofs.Ytmengjdjjnhajaa
end

section
/- What a disk's functions make of it: the program's, and the reference's. -/
namespace Go.Proofs.Ytmengjdjjnhajaa
open Go Go.Proofs.AM

abbrev Pg := List Int
/-- Sectors, hurt, off, to be cut, how many are left, how many were done, which. -/
abbrev Dk := List Pg × (List Bool × (Bool × (Bool × (Int × (Int × List (Int × Pg))))))

/-- A disk that was made. -/
structure DOk (n : Nat) (d : Dk) : Prop where
  n0 : 0 < n
  n1 : n ≤ 8192
  ss : d.1.length = n
  hs : d.2.1.length = n
  pg : ∀ p ∈ d.1, p.length = 256

theorem m34_eq {n : Nat} {d : Dk} (h : DOk n d) : m34 (d, ()) = some (false, ()) := by
  unfold m34
  have := h.n0
  have := h.ss
  rw [decide_eq_false (by show ¬ ((d.1.length : Nat) : Int) = 0; omega)]

theorem m35_eq {n : Nat} {d : Dk} (h : DOk n d) : m35 (d, ()) = some (if d.2.2.1 = true then 8 else 0, ()) := by
  unfold m35
  rw [m34_eq h]
  show (bif d.2.2.1 then _ else _) = _
  cases d.2.2.1 <;> rfl

theorem there_eq (d : Dk) (s : Int) : m36 (d, (s, ())) = some (decide (0 ≤ s ∧ s < (d.1.length : Int)), ()) := by
  unfold m36
  by_cases h1 : 0 ≤ s
  · rw [decide_eq_true (show s ≥ 0 from h1)]
    by_cases h2 : s < (d.1.length : Int)
    · rw [decide_eq_true (show s < (d.1.length : Int) from h2), decide_eq_true ⟨h1, h2⟩]; rfl
    · rw [decide_eq_false (show ¬ s < (d.1.length : Int) from h2), decide_eq_false (fun h => h2 h.2)]; rfl
  · rw [decide_eq_false (show ¬ s ≥ 0 from h1), decide_eq_false (show ¬ (0 ≤ s ∧ s < (d.1.length : Int)) from fun h => h1 h.1)]; rfl

theorem thereR_eq (d : Dk) (s : Int) : m38 (d, (s, ())) = some (decide (0 ≤ s ∧ s < (d.1.length : Int)), ()) := there_eq d s

theorem m37_eq (p : Pg) (h : p.length ≤ 140737488355328) : m37 (p, ()) = some (p, ()) := by
  unfold m37
  dsimp only
  rw [gd_pos (by simp; omega), gd_pos (by simp; omega)]
  by_cases h0 : ((p.length : Nat) : Int) = 0
  · obtain rfl : p = [] := List.length_eq_zero_iff.1 (by omega)
    simp [both]
  · rw [decide_eq_false h0]
    simp [both]

theorem m39_eq (p : Pg) (h : p.length ≤ 140737488355328) : m39 (p, ()) = some (p, ()) := by
  unfold m39
  dsimp only
  rw [gd_pos (by simp; omega), gd_pos (by simp; omega)]
  rfl

def last (l : List (Int × Pg)) : List (Int × Pg) := l.drop (l.length - 1024)

def put (keep : List (Int × Pg) → List (Int × Pg)) (d : Dk) (s : Int) (b : Pg) (left : Int) : Dk :=
  (d.1.set s.toNat b, (d.2.1.set s.toNat false, (d.2.2.1, (d.2.2.2.1, (left, (IntKind.wrap .i64 (d.2.2.2.2.2.1 + 1), keep (d.2.2.2.2.2.2 ++ [(s, b)])))))))

/-- What a write makes of a disk. -/
def wrt (keep : List (Int × Pg) → List (Int × Pg)) (d : Dk) (s : Int) (b : Pg) : Dk × (Int × Unit) :=
  if d.2.2.1 = true then (d, (8, ()))
  else if ¬ (0 ≤ s ∧ s < (d.1.length : Int)) then (d, (1, ()))
  else if ¬ b.length = 256 then (d, (1, ()))
  else if d.2.2.2.1 = true then (if d.2.2.2.2.1 = 0 then ((d.1, (d.2.1, (true, d.2.2.2))), (8, ())) else (put keep d s b (IntKind.wrap .i64 (d.2.2.2.2.1 - 1)), (0, ())))
  else (put keep d s b d.2.2.2.2.1, (0, ()))

theorem trim_eq (l : List (Int × Pg)) (h : l.length ≤ 1025) :
    0 ≤ (if IntKind.wrap .i64 (((l.length : Nat) : Int) - 1024) > 0 then IntKind.wrap .i64 (((l.length : Nat) : Int) - 1024) else 0) ∧
    (if IntKind.wrap .i64 (((l.length : Nat) : Int) - 1024) > 0 then IntKind.wrap .i64 (((l.length : Nat) : Int) - 1024) else 0) ≤ ((l.length : Nat) : Int) ∧
    List.take (Int.toNat ((l.length : Nat) : Int) - Int.toNat (if IntKind.wrap .i64 (((l.length : Nat) : Int) - 1024) > 0 then IntKind.wrap .i64 (((l.length : Nat) : Int) - 1024) else 0)) (List.drop (Int.toNat (if IntKind.wrap .i64 (((l.length : Nat) : Int) - 1024) > 0 then IntKind.wrap .i64 (((l.length : Nat) : Int) - 1024) else 0)) l) = last l := by
  rw [wrap64 (by omega) (by omega)]
  unfold last
  by_cases h1 : ((l.length : Nat) : Int) - 1024 > 0
  · rw [if_pos h1]
    have e : Int.toNat (((l.length : Nat) : Int) - 1024) = l.length - 1024 := by omega
    refine ⟨by omega, by omega, ?_⟩
    rw [e, Int.toNat_natCast, List.take_of_length_le (by simp)]
  · rw [if_neg h1]
    have e : l.length - 1024 = 0 := by omega
    refine ⟨by omega, by omega, ?_⟩
    rw [e, Int.toNat_natCast]
    simp

set_option maxHeartbeats 1000000 in
theorem m11_eq {n : Nat} {d : Dk} (h : DOk n d) (hl : d.2.2.2.2.2.2.length ≤ 1024) (s : Int) (b : Pg) : m11 (d, (s, (b, ()))) = some (wrt last d s b) := by
  obtain ⟨ss, hs, off, cut, left, many, log⟩ := d
  have n0 := h.n0
  have n1 := h.n1
  have h1 : ss.length = n := h.ss
  have h2 : hs.length = n := h.hs
  have hl : log.length ≤ 1024 := hl
  apply eq_of_Ok
  unfold m11
  refine Ok.bind (S := fun y => y = (if off = true then 8 else 0, ())) (Ok.of (m35_eq h) rfl) ?_
  rintro _ rfl
  unfold wrt
  cases off with
  | true =>
    refine Ok.ncond (fun _ => Ok.some rfl) fun hc => ?_
    have : (8 : Int) = 0 := hc
    omega
  | false =>
    refine Ok.ncond (fun hc => absurd rfl hc) fun _ => ?_
    rw [if_neg (by simp)]
    refine Ok.bind (S := fun y => y = (decide (0 ≤ s ∧ s < (ss.length : Int)), ())) (Ok.of (there_eq _ s) rfl) ?_
    rintro _ rfl
    refine Ok.ncond (fun hn => ?_) fun hth => ?_
    · rw [if_pos hn]; exact Ok.some rfl
    · rw [if_neg (fun hh => hh hth)]
      obtain ⟨s0, s1⟩ := hth
      obtain ⟨k, rfl⟩ := Int.eq_ofNat_of_zero_le s0
      have hk : k < n := by omega
      refine Ok.ncond (fun hn => ?_) fun hb => ?_
      · have hn : ¬ ((b.length : Nat) : Int) = 256 := hn
        rw [if_pos (by omega)]; exact Ok.some rfl
      · have hb : ((b.length : Nat) : Int) = 256 := hb
        rw [if_neg (fun hh => hh (by omega))]
        have ht := trim_eq (log ++ [((k : Int), b)]) (by simp; omega)
        obtain ⟨t1, t2, t3⟩ := ht
        have hclone := m37_eq b (by omega)
        have hlen : (log ++ [((k : Int), b)]).length = log.length + 1 := by simp
        cases cut with
        | true =>
          refine Ok.condb (fun _ => ?_) fun hc => absurd hc (by simp)
          rw [if_pos rfl]
          refine Ok.cond (fun hz => ?_) fun hz => ?_
          · rw [if_pos hz]; exact Ok.some rfl
          · rw [if_neg hz]
            refine Ok.bind (S := fun y => y = (b, ())) (Ok.of hclone rfl) ?_
            rintro _ rfl
            dsimp only
            refine Ok.gd (by omega) (Ok.gd (by omega) (Ok.gd (by omega) (Ok.gd (by omega) (Ok.gd (by omega) (Ok.gd (by omega) (Ok.bind (S := fun y => y = (b, ())) (Ok.of hclone rfl) ?_))))))
            rintro _ rfl
            dsimp only
            refine Ok.gd (by simp; omega) (Ok.gd (by simp; omega) (Ok.gd t1 (Ok.gd t2 (Ok.gd (Int.le_refl _) (Ok.some ?_)))))
            rw [t3]
            rfl
        | false =>
          refine Ok.condb (fun hc => absurd hc (by simp)) fun _ => ?_
          rw [if_neg (by simp)]
          refine Ok.bind (S := fun y => y = (b, ())) (Ok.of hclone rfl) ?_
          rintro _ rfl
          dsimp only
          refine Ok.gd (by omega) (Ok.gd (by omega) (Ok.gd (by omega) (Ok.gd (by omega) (Ok.gd (by omega) (Ok.gd (by omega) (Ok.bind (S := fun y => y = (b, ())) (Ok.of hclone rfl) ?_))))))
          rintro _ rfl
          dsimp only
          refine Ok.gd (by simp; omega) (Ok.gd (by simp; omega) (Ok.gd t1 (Ok.gd t2 (Ok.gd (Int.le_refl _) (Ok.some ?_)))))
          rw [t3]
          rfl

set_option maxHeartbeats 1000000 in
theorem m15_eq {n : Nat} {d : Dk} (h : DOk n d) (hl : d.2.2.2.2.2.2.length ≤ 1000000) (s : Int) (b : Pg) : m15 (d, (s, (b, ()))) = some (wrt id d s b) := by
  obtain ⟨ss, hs, off, cut, left, many, log⟩ := d
  have n0 := h.n0
  have n1 := h.n1
  have h1 : ss.length = n := h.ss
  have h2 : hs.length = n := h.hs
  have hl : log.length ≤ 1000000 := hl
  apply eq_of_Ok
  unfold m15 wrt
  cases off with
  | true =>
    refine Ok.condb (fun _ => Ok.some rfl) fun hc => absurd hc (by simp)
  | false =>
    refine Ok.condb (fun hc => absurd hc (by simp)) fun _ => ?_
    rw [if_neg (by simp)]
    refine Ok.bind (S := fun y => y = (decide (0 ≤ s ∧ s < (ss.length : Int)), ())) (Ok.of (thereR_eq _ s) rfl) ?_
    rintro _ rfl
    refine Ok.ncond (fun hn => ?_) fun hth => ?_
    · rw [if_pos hn]; exact Ok.some rfl
    · rw [if_neg (fun hh => hh hth)]
      obtain ⟨s0, s1⟩ := hth
      obtain ⟨k, rfl⟩ := Int.eq_ofNat_of_zero_le s0
      have hk : k < n := by omega
      refine Ok.ncond (fun hn => ?_) fun hb => ?_
      · have hn : ¬ ((b.length : Nat) : Int) = 256 := hn
        rw [if_pos (by omega)]; exact Ok.some rfl
      · have hb : ((b.length : Nat) : Int) = 256 := hb
        rw [if_neg (fun hh => hh (by omega))]
        have hclone := m39_eq b (by omega)
        cases cut with
        | true =>
          refine Ok.condb (fun _ => ?_) fun hc => absurd hc (by simp)
          rw [if_pos rfl]
          refine Ok.cond (fun hz => ?_) fun hz => ?_
          · rw [if_pos hz]; exact Ok.some rfl
          · rw [if_neg hz]
            refine Ok.condb (fun _ => ?_) fun hc => absurd hc (by simp)
            refine Ok.bind (S := fun y => y = (b, ())) (Ok.of hclone rfl) ?_
            rintro _ rfl
            dsimp only
            refine Ok.gd (by omega) (Ok.gd (by omega) (Ok.gd (by omega) (Ok.gd (by omega) (Ok.gd (by omega) (Ok.gd (by omega) (Ok.bind (S := fun y => y = (b, ())) (Ok.of hclone rfl) ?_))))))
            rintro _ rfl
            dsimp only
            refine Ok.gd (by simp; omega) (Ok.gd (by simp; omega) (Ok.some rfl))
        | false =>
          refine Ok.condb (fun hc => absurd hc (by simp)) fun _ => ?_
          rw [if_neg (by simp)]
          refine Ok.condb (fun hc => absurd hc (by simp)) fun _ => ?_
          refine Ok.bind (S := fun y => y = (b, ())) (Ok.of hclone rfl) ?_
          rintro _ rfl
          dsimp only
          refine Ok.gd (by omega) (Ok.gd (by omega) (Ok.gd (by omega) (Ok.gd (by omega) (Ok.gd (by omega) (Ok.gd (by omega) (Ok.bind (S := fun y => y = (b, ())) (Ok.of hclone rfl) ?_))))))
          rintro _ rfl
          dsimp only
          refine Ok.gd (by simp; omega) (Ok.gd (by simp; omega) (Ok.some rfl))

/-- What is read. -/
def rea (d : Dk) (s : Int) : Pg × (Int × Unit) :=
  if d.2.2.1 = true then ([], (8, ()))
  else if ¬ (0 ≤ s ∧ s < (d.1.length : Int)) then ([], (1, ()))
  else if d.2.1.getD s.toNat false = true then ([], (80, ()))
  else (d.1.getD s.toNat [], (0, ()))

theorem pg_len {n : Nat} {d : Dk} (h : DOk n d) (k : Nat) : (d.1.getD k []).length ≤ 256 := by
  by_cases hk : k < d.1.length
  · rw [List.getD_eq_getElem?_getD, List.getElem?_eq_getElem hk]
    have := h.pg _ (List.getElem_mem hk)
    simp [this]
  · rw [List.getD_eq_getElem?_getD, List.getElem?_eq_none (by omega)]
    simp

theorem m29_eq {n : Nat} {d : Dk} (h : DOk n d) (s : Int) : m29 (d, (s, ())) = some (rea d s) := by
  have n0 := h.n0
  have n1 := h.n1
  have h1 := h.ss
  have h2 := h.hs
  have hp := pg_len h s.toNat
  obtain ⟨ss, hs, off, cut, left, many, log⟩ := d
  dsimp only at h1 h2 hp
  apply eq_of_Ok
  unfold m29 rea
  refine Ok.bind (S := fun y => y = (if off = true then 8 else 0, ())) (Ok.of (m35_eq h) rfl) ?_
  rintro _ rfl
  cases off with
  | true =>
    refine Ok.ncond (fun _ => Ok.some rfl) fun hc => ?_
    have : (8 : Int) = 0 := hc
    omega
  | false =>
    refine Ok.ncond (fun hc => absurd rfl hc) fun _ => ?_
    rw [if_neg (by simp)]
    refine Ok.bind (S := fun y => y = (decide (0 ≤ s ∧ s < (ss.length : Int)), ())) (Ok.of (there_eq _ s) rfl) ?_
    rintro _ rfl
    refine Ok.ncond (fun hn => ?_) fun hth => ?_
    · rw [if_pos hn]; exact Ok.some rfl
    · rw [if_neg (fun hh => hh hth)]
      dsimp only
      refine Ok.gd hth.1 (Ok.gd (by omega) (Ok.condb (fun hb => ?_) fun hb => ?_))
      · rw [if_pos hb]; exact Ok.some rfl
      · rw [if_neg (by rw [hb]; simp)]
        refine Ok.gd hth.1 (Ok.gd (by omega) (Ok.bind (S := fun y => y = (ss.getD s.toNat [], ())) (Ok.of (m37_eq _ (by omega)) rfl) ?_))
        rintro _ rfl
        exact Ok.some rfl

theorem m40_eq {n : Nat} {d : Dk} (h : DOk n d) (s : Int) : m40 (d, (s, ())) = some (rea d s) := by
  have n0 := h.n0
  have n1 := h.n1
  have h1 := h.ss
  have h2 := h.hs
  have hp := pg_len h s.toNat
  obtain ⟨ss, hs, off, cut, left, many, log⟩ := d
  dsimp only at h1 h2 hp
  apply eq_of_Ok
  unfold m40 rea
  cases off with
  | true => exact Ok.condb (fun _ => Ok.some rfl) fun hc => absurd hc (by simp)
  | false =>
    refine Ok.condb (fun hc => absurd hc (by simp)) fun _ => ?_
    rw [if_neg (by simp)]
    refine Ok.bind (S := fun y => y = (decide (0 ≤ s ∧ s < (ss.length : Int)), ())) (Ok.of (thereR_eq _ s) rfl) ?_
    rintro _ rfl
    refine Ok.ncond (fun hn => ?_) fun hth => ?_
    · rw [if_pos hn]; exact Ok.some rfl
    · rw [if_neg (fun hh => hh hth)]
      dsimp only
      refine Ok.gd hth.1 (Ok.gd (by omega) (Ok.condb (fun hb => ?_) fun hb => ?_))
      · rw [if_pos hb]; exact Ok.some rfl
      · rw [if_neg (by rw [hb]; simp)]
        refine Ok.gd hth.1 (Ok.gd (by omega) (Ok.bind (S := fun y => y = (ss.getD s.toNat [], ())) (Ok.of (m39_eq _ (by omega)) rfl) ?_))
        rintro _ rfl
        exact Ok.some rfl

theorem m22_eq {n : Nat} {d : Dk} (h : DOk n d) : m22 (d, ()) = some ((n : Int), ()) := by
  unfold m22
  rw [m34_eq h, ← h.ss]
  rfl
theorem m13_eq {n : Nat} {d : Dk} (h : DOk n d) : m13 (d, ()) = some ((n : Int), ()) := by
  unfold m13
  rw [← h.ss]
theorem m14_eq {n : Nat} {d : Dk} (h : DOk n d) : m14 (d, ()) = some (!d.2.2.1, ()) := by
  unfold m14
  rw [m35_eq h]
  cases hd : d.2.2.1 <;> simp
theorem m16_eq {n : Nat} {d : Dk} (h : DOk n d) : m16 (d, ()) = some ((d.1, (d.2.1, (false, (false, (0, d.2.2.2.2.2))))), ()) := by
  unfold m16
  rw [m34_eq h]
  rfl
theorem m10_eq {n : Nat} {d : Dk} (h : DOk n d) (k : Int) : m10 (d, (k, ())) = some ((d.1, (d.2.1, (d.2.2.1, (decide (k ≥ 0), (if 0 > k then 0 else k, d.2.2.2.2.2))))), ()) := by
  unfold m10
  rw [m34_eq h]
  rfl

theorem set_mem {α : Type} {l : List α} {i : Nat} {a x : α} (h : x ∈ l.set i a) : x ∈ l ∨ x = a := List.mem_or_eq_of_mem_set h

theorem DOk.put {n : Nat} {d : Dk} (h : DOk n d) (keep : List (Int × Pg) → List (Int × Pg)) (s : Int) {b : Pg} (hb : b.length = 256) (left : Int) : DOk n (put keep d s b left) :=
  ⟨h.n0, h.n1, by show (d.1.set _ _).length = n; simp [h.ss], by show (d.2.1.set _ _).length = n; simp [h.hs], fun p hp => by
    rcases set_mem hp with hp | rfl
    · exact h.pg p hp
    · exact hb⟩

/-- All is well with a disk's sectors: none is hurt. -/
def Well (d : Dk) : Prop := ∀ k, d.2.1.getD k false = false

theorem Well.put {d : Dk} (h : Well d) (keep : List (Int × Pg) → List (Int × Pg)) (s : Int) (b : Pg) (left : Int) : Well (put keep d s b left) := fun k => by
  show (d.2.1.set s.toNat false).getD k false = false
  rw [List.getD_eq_getElem?_getD, List.getElem?_set]
  have := h k
  rw [List.getD_eq_getElem?_getD] at this
  split
  · split <;> rfl
  · exact this

theorem take_succ {α : Type} [Inhabited α] (l : List α) (i : Nat) (h : i < l.length) (z : α) : l.take i ++ [l.getD i z] = l.take (i + 1) := by
  rw [List.take_add_one, List.getD_eq_getElem?_getD, List.getElem?_eq_getElem h]
  rfl

theorem m18_eq {n : Nat} {d : Dk} (h : DOk n d) (hw : Well d) (hg : d.2.2.1 = false) : m18 (d, ()) = some (d.1, (0, ())) := by
  have n1 := h.n1
  have hs := h.ss
  apply eq_of_Ok
  unfold m18
  refine Ok.bind (S := fun e => e = .inl d.1) (Ok.loop n (fun i x => x = (d.1.take i, (i : Int))) rfl ?_) ?_
  · rintro i _ hi rfl
    refine Ok.bind (S := fun y => y = ((n : Int), ())) (Ok.of (m13_eq h) rfl) ?_
    rintro _ rfl
    refine Ok.cond (fun hlt => ?_) fun hge => ?_
    · have hlt : (i : Int) < n := hlt
      have hrd : rea d (i : Int) = (d.1.getD i [], (0, ())) := by
        unfold rea
        rw [if_neg (by rw [hg]; simp), if_neg (fun hh => hh ⟨by omega, by omega⟩), Int.toNat_natCast, if_neg (by rw [hw]; simp)]
      refine Ok.bind (S := fun y => y = rea d (i : Int)) (Ok.of (m40_eq h _) rfl) ?_
      rintro _ rfl
      rw [hrd]
      refine Ok.ncond (fun hc => absurd rfl hc) fun _ => ?_
      have hlen : (d.1.take i).length = i := by simp; omega
      dsimp only
      refine Ok.gd (by simp; omega) (Ok.gd (by simp; omega) (Ok.inl ⟨by omega, ?_⟩))
      rw [take_succ _ _ (by omega), wrap64 (by omega) (by omega)]
      rfl
    · have hge : ¬ (i : Int) < n := hge
      obtain rfl : i = n := by omega
      refine Ok.inr ?_
      show Sum.inl (d.1.take i) = _
      rw [List.take_of_length_le (by omega)]
  · rintro _ rfl
    exact Ok.some rfl
end Go.Proofs.Ytmengjdjjnhajaa
end

section
/- The law's first look: two writes, the second cuts the power. -/
namespace Go.Proofs.Ytmengjdjjnhajaa
open Go Go.Proofs.AM

def zp : Pg := List.replicate (Int.toNat 256) 0

theorem zp_len : zp.length = 256 := by simp [zp]

theorem new_loop {Y : Type} (n : Nat) (hn : n ≤ 8192) (m : Int) (hm : m = n) (r : Y) (f : Int × (List Pg × Y) → Option ((Int × (List Pg × Y)) ⊕ (List Pg × Y)))
    (hf : ∀ i ss, f (i, (ss, r)) = (bif (decide (i < m)) then
        (gd (((256 : Int) * (1 : Int)) ≤ (140737488355328 : Int)) (gd ((((List.length ss) + (List.length ((List.replicate (Int.toNat (256 : Int)) (0 : Int)) :: ([] : List (List Int))))) * 24) ≤ 140737488355328) (gd (((List.length ss) + (List.length ((List.replicate (Int.toNat (256 : Int)) (0 : Int)) :: ([] : List (List Int))))) ≤ 140737488355328) (some (Sum.inl ((Go.IntKind.wrap .i64 (i + (1 : Int))), ((ss ++ ((List.replicate (Int.toNat (256 : Int)) (0 : Int)) :: ([] : List (List Int)))), r)))))))
      else some (Sum.inr (ss, r)))) : loopM f (0, ([], r)) = some (List.replicate n zp, r) := by
  apply eq_of_Ok
  refine Ok.loop n (fun i x => x = ((i : Int), (List.replicate i zp, r))) rfl ?_
  rintro i _ hi rfl
  rw [hf]
  refine Ok.cond (fun hlt => ?_) fun hge => ?_
  · refine Ok.gd (by decide) (Ok.gd (by simp; omega) (Ok.gd (by simp; omega) (Ok.inl ⟨by omega, ?_⟩)))
    rw [wrap64 (by omega) (by omega), List.replicate_succ']
    rfl
  · obtain rfl : i = n := by omega
    exact Ok.inr rfl

/-- A new disk. -/
def d0 (n : Nat) : Dk := (List.replicate n zp, (List.replicate n false, (false, (false, (0, (0, []))))))

theorem d0_ok {n : Nat} (h : 0 < n) (h1 : n ≤ 8192) : DOk n (d0 n) :=
  ⟨h, h1, by simp [d0], by simp [d0], fun p hp => by
    have hp : p ∈ List.replicate n zp := hp
    rw [(List.mem_replicate.1 hp).2]; exact zp_len⟩

theorem d0_well (n : Nat) : Well (d0 n) := fun k => by
  show (List.replicate n false).getD k false = false
  rw [List.getD_eq_getElem?_getD, List.getElem?_replicate]
  split <;> rfl

theorem last_len (l : List (Int × Pg)) : (last l).length ≤ 1024 := by
  unfold last
  rw [List.length_drop]
  omega

theorem put_log (keep : List (Int × Pg) → List (Int × Pg)) (d : Dk) (s : Int) (b : Pg) (left : Int) : (put keep d s b left).2.2.2.2.2.2 = keep (d.2.2.2.2.2.2 ++ [(s, b)]) := rfl

theorem streq_self (a : ByteArray) : streq a a = true := by
  unfold streq
  rw [← str_beq]
  simp

theorem m30_self (p : Pg) : m30 (p, (p, ())) = some (true, ()) := by
  unfold m30
  rw [show ((p, (p, ())) : Pg × Pg × Unit).2.1 = p from rfl]
  show some (streq (strOfNums p) (strOfNums p), ()) = _
  rw [streq_self]

/-- The same sectors and the rest, whatever the power does. -/
theorem DOk.same {n : Nat} {d e : Dk} (h : DOk n d) (h1 : e.1 = d.1) (h2 : e.2.1 = d.2.1) : DOk n e :=
  ⟨h.n0, h.n1, by rw [h1]; exact h.ss, by rw [h2]; exact h.hs, by rw [h1]; exact h.pg⟩

theorem m7_eq : m7 () = some (true, ()) := by
  apply eq_of_Ok
  unfold m7
  refine Ok.cond (fun h => absurd h (by decide)) fun _ => Ok.cond (fun h => absurd h (by decide)) fun _ => Ok.gd (by decide) ?_
  refine Ok.bind (S := fun y => y = d0 3) (Ok.of (new_loop 3 (by decide) 3 rfl (List.replicate (Int.toNat 3) false, (false, (false, (0, (0, []))))) _ (fun _ _ => rfl)) rfl) ?_
  rintro _ rfl
  refine Ok.ncond (fun h => absurd rfl h) fun _ => ?_
  have hb : (cyc [7] 256).length = 256 := cyc_len _ _
  have h28 : ∀ N, N = 256 → m28 ([7], (((N : Nat) : Int), ())) = some (cyc [7] N, ()) := fun N hN => by
    have h := m28_ok [7] N (by decide) (by omega) (by simp; omega) (.inl (by simp; omega)) (by omega)
    have e : [(7 : Int)].length * N = N := Nat.one_mul N
    exact h.trans (by rw [e])
  have h28 := h28 256 rfl
  refine Ok.bind (S := fun y => y = (cyc [7] 256, ())) (Ok.of h28 rfl) ?_
  rintro _ rfl
  generalize cyc [7] 256 = b at hb
  have o0 : DOk 3 (d0 3) := d0_ok (by decide) (by decide)
  refine Ok.bind (S := fun y => y = ((List.replicate 3 zp, (List.replicate 3 false, (false, (true, (1, (0, [])))))), ())) (Ok.of (m10_eq o0 1) rfl) ?_
  rintro _ rfl
  have o1 : DOk 3 (List.replicate 3 zp, (List.replicate 3 false, (false, (true, (1, (0, [])))))) := o0.same rfl rfl
  have w1 : wrt last (List.replicate 3 zp, (List.replicate 3 false, (false, (true, (1, (0, [])))))) 1 b = (put last (List.replicate 3 zp, (List.replicate 3 false, (false, (true, (1, (0, [])))))) 1 b 0, (0, ())) := by
    unfold wrt
    rw [if_neg (by simp), if_neg (by simp), if_neg (by simp [hb]), if_pos rfl, if_neg (by simp)]
    rfl
  refine Ok.bind (S := fun y => y = (put last (List.replicate 3 zp, (List.replicate 3 false, (false, (true, (1, (0, [])))))) 1 b 0, (0, ()))) (Ok.of ((m11_eq o1 (by simp) 1 b).trans (by rw [w1])) rfl) ?_
  rintro _ rfl
  refine Ok.ncond (fun h => absurd rfl h) fun _ => ?_
  have o2 := o1.put last 1 hb 0
  obtain ⟨d2, hd2⟩ : ∃ d2, d2 = put last (List.replicate 3 zp, (List.replicate 3 false, (false, (true, (1, (0, [])))))) 1 b 0 := ⟨_, rfl⟩
  have hlog : d2.2.2.2.2.2.2.length ≤ 1024 := by rw [hd2, put_log]; exact last_len _
  rw [← hd2] at o2 ⊢
  have w2 : wrt last d2 2 b = ((d2.1, (d2.2.1, (true, d2.2.2.2))), (8, ())) := by
    unfold wrt
    have a1 : d2.2.2.1 = false := by rw [hd2]; rfl
    have a2 : d2.2.2.2.1 = true := by rw [hd2]; rfl
    have a3 : d2.2.2.2.2.1 = 0 := by rw [hd2]; rfl
    have a4 := o2.ss
    rw [if_neg (by rw [a1]; decide), if_neg (fun h => h ⟨by decide, by omega⟩), if_neg (fun h => h hb), if_pos a2, if_pos a3]
  refine Ok.bind (S := fun y => y = ((d2.1, (d2.2.1, (true, d2.2.2.2))), (8, ()))) (Ok.of ((m11_eq o2 hlog 2 b).trans (by rw [w2])) rfl) ?_
  rintro _ rfl
  refine Ok.ncond (fun h => absurd rfl h) fun _ => ?_
  have o3 : DOk 3 (d2.1, (d2.2.1, (true, d2.2.2.2))) := o2.same rfl rfl
  refine Ok.bind (S := fun y => y = (false, ())) (Ok.of (m14_eq o3) rfl) ?_
  rintro _ rfl
  refine Ok.condb (fun h => absurd h (by simp)) fun _ => ?_
  refine Ok.bind (S := fun y => y = ((d2.1, (d2.2.1, (false, (false, (0, d2.2.2.2.2.2))))), ())) (Ok.of (m16_eq o3) rfl) ?_
  rintro _ rfl
  have o4 : DOk 3 (d2.1, (d2.2.1, (false, (false, (0, d2.2.2.2.2.2))))) := o2.same rfl rfl
  have r1 : rea (d2.1, (d2.2.1, (false, (false, (0, d2.2.2.2.2.2))))) 1 = (b, (0, ())) := by rw [hd2]; rfl
  have r2 : rea (d2.1, (d2.2.1, (false, (false, (0, d2.2.2.2.2.2))))) 2 = (zp, (0, ())) := by rw [hd2]; rfl
  refine Ok.bind (S := fun y => y = (b, (0, ()))) (Ok.of ((m29_eq o4 1).trans (by rw [r1])) rfl) ?_
  rintro _ rfl
  refine Ok.bind (S := fun y => y = (zp, (0, ()))) (Ok.of ((m29_eq o4 2).trans (by rw [r2])) rfl) ?_
  rintro _ rfl
  refine Ok.cond (fun _ => ?_) fun h => absurd rfl h
  refine Ok.cond (fun _ => ?_) fun h => absurd rfl h
  refine Ok.bind (S := fun y => y = (true, ())) (Ok.of (m30_self b) rfl) ?_
  rintro _ rfl
  refine Ok.condb (fun _ => ?_) fun h => absurd h (by simp)
  refine Ok.gd (by decide) (Ok.bind (S := fun y => y = (true, ())) (Ok.of (m30_self zp) rfl) ?_)
  rintro _ rfl
  exact Ok.some rfl

/-- The same sectors are told to be the same. -/
theorem m19_self (l : List Pg) (hl : l.length ≤ 1000000) : m19 (l, (l, ())) = some (true, ()) := by
  apply eq_of_Ok
  unfold m19
  refine Ok.ncond (fun h => absurd rfl h) fun _ => ?_
  refine Ok.bind (S := fun e => e = .inl ()) (Ok.loop l.length (fun i x => x = (i : Int)) rfl ?_) ?_
  · rintro i _ hi rfl
    refine Ok.cond (fun hlt => ?_) fun hge => Ok.inr rfl
    have hlt : (i : Int) < (l.length : Int) := hlt
    refine Ok.gd (by omega) (Ok.gd hlt (Ok.gd (by omega) (Ok.gd hlt ?_)))
    rw [streq_self]
    refine Ok.condb (fun h => absurd h (by simp)) fun _ => Ok.inl ⟨by omega, ?_⟩
    rw [wrap64 (by omega) (by omega)]
    rfl
  · rintro _ rfl
    exact Ok.some rfl
end Go.Proofs.Ytmengjdjjnhajaa
end

section
/- What no call made: the plain law of DiskNone. -/
namespace Go.Proofs.Ytmengjdjjnhajaa
open Go Go.Proofs.AM

theorem DiskNone_pure : ∀ x : AM.PDen [(false, (.int .i64)), (false, (.sl (.int .u8)))], AM.PWf _ x → m6 x = some (true, ()) := by
  intro x _
  unfold m6
  rw [m7_eq]
  rfl
end Go.Proofs.Ytmengjdjjnhajaa
end
