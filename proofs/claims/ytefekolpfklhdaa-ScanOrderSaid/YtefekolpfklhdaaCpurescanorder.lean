/- In whatever order things are found, the newest are the same: the plain law of ScanOrder. -/
import Derived.Test.YtefekolpfklhdaaFnScanOrder
import Derived.Test.YtefekolpfklhdaaCpscan2
set_option maxRecDepth 2000
set_option linter.unusedVariables false
set_option linter.unusedSimpArgs false
namespace Go.Proofs.Ytefekolpfklhdaa
open Go Go.Proofs.AM

abbrev z1 : Ent := ((0, 0), (0, (0, (0, 0))))

def swp (l : List Ent) : Nat → List Ent
  | 0 => l
  | i + 1 => ((swp l i).set i ((swp l i).getD (l.length - 1 - i) z1)).set (l.length - 1 - i) ((swp l i).getD i z1)

theorem swp_len (l : List Ent) : ∀ i, (swp l i).length = l.length
  | 0 => rfl
  | i + 1 => by unfold swp; simp [swp_len l i]

theorem swp_perm (l : List Ent) : ∀ i, i ≤ l.length / 2 → (swp l i).Perm l
  | 0, _ => .refl _
  | i + 1, h => by
    have hl := swp_len l i
    have h1 : i < (swp l i).length := by omega
    have h2 : l.length - 1 - i < (swp l i).length := by omega
    refine List.Perm.trans ?_ (swp_perm l i (by omega))
    rw [show swp l (i + 1) = ((swp l i).set i ((swp l i).getD (l.length - 1 - i) z1)).set (l.length - 1 - i) ((swp l i).getD i z1) from rfl]
    have := @List.set_set_perm _ (swp l i) i (l.length - 1 - i) h1 h2
    rw [show (swp l i).getD (l.length - 1 - i) z1 = (swp l i)[l.length - 1 - i] by simp [h2], show (swp l i).getD i z1 = (swp l i)[i] by simp [h1]]
    exact this

/-- A loop that turns a slice round: the same elements. -/
theorem rev_loop (l : List Ent) (h0 : l.length ≤ 1000000) : ∃ l' : List Ent, l'.Perm l ∧ loopM (X := (Int × (Int × (List ((Int × Int) × (Int × (Int × (Int × Int)))))))) (E := (List ((Int × Int) × (Int × (Int × (Int × Int)))))) (fun (x4 : (Int × (Int × (List ((Int × Int) × (Int × (Int × (Int × Int)))))))) =>
            bif (decide (x4.1 < x4.2.1)) then
              (gd ((0 : Int) ≤ x4.2.1) (gd (x4.2.1 < (((List.length x4.2.2) : Nat) : Int)) (gd ((Int.toNat x4.2.1) < (List.length x4.2.2)) (gd ((0 : Int) ≤ x4.1) (gd (x4.1 < (((List.length x4.2.2) : Nat) : Int)) (gd ((Int.toNat x4.1) < (List.length x4.2.2)) (gd ((0 : Int) ≤ x4.1) (gd (x4.1 < (((List.length x4.2.2) : Nat) : Int)) (gd ((Int.toNat x4.1) < (List.length x4.2.2)) (gd ((0 : Int) ≤ x4.2.1) (gd (x4.2.1 < (((List.length (List.set x4.2.2 (Int.toNat x4.1) (List.getD x4.2.2 (Int.toNat x4.2.1) (((0 : Int), (0 : Int)), ((0 : Int), ((0 : Int), ((0 : Int), (0 : Int)))))))) : Nat) : Int)) (gd ((Int.toNat x4.2.1) < (List.length (List.set x4.2.2 (Int.toNat x4.1) (List.getD x4.2.2 (Int.toNat x4.2.1) (((0 : Int), (0 : Int)), ((0 : Int), ((0 : Int), ((0 : Int), (0 : Int))))))))) (some (Sum.inl ((Go.IntKind.wrap .i64 (x4.1 + (1 : Int))), ((Go.IntKind.wrap .i64 (x4.2.1 - (1 : Int))), (List.set (List.set x4.2.2 (Int.toNat x4.1) (List.getD x4.2.2 (Int.toNat x4.2.1) (((0 : Int), (0 : Int)), ((0 : Int), ((0 : Int), ((0 : Int), (0 : Int))))))) (Int.toNat x4.2.1) (List.getD x4.2.2 (Int.toNat x4.1) (((0 : Int), (0 : Int)), ((0 : Int), ((0 : Int), ((0 : Int), (0 : Int)))))))))))))))))))))))
            else
              (some (Sum.inr x4.2.2))) ((0 : Int), ((Go.IntKind.wrap .i64 ((((List.length l) : Nat) : Int) - (1 : Int))), l)) = some l' := by
  refine ⟨swp l (l.length / 2), swp_perm l _ (Nat.le_refl _), ?_⟩
  have hw : Go.IntKind.wrap .i64 ((((List.length l) : Nat) : Int) - (1 : Int)) = (List.length l : Int) - 1 := wrap64 (by omega) (by omega)
  rw [hw]
  refine loop_idx' (l.length / 2) (fun i => ((i : Int), ((l.length : Int) - 1 - i, swp l i))) ?_ ?_ ?_
  · simp [swp]
  · intro i hi
    have hl := swp_len l i
    simp only [List.length_set, hl]
    simp only [Bool.cond_eq_ite, decide_eq_true_eq]
    rw [if_pos (by omega), gd_pos (by omega), gd_pos (by omega), gd_pos (by omega), gd_pos (by omega), gd_pos (by omega), gd_pos (by omega), gd_pos (by omega), gd_pos (by omega), gd_pos (by omega), gd_pos (by omega), gd_pos (by omega), gd_pos (by omega), wrap64 (by omega) (by omega), wrap64 (by omega) (by omega)]
    have e1 : ((l.length : Int) - 1 - i).toNat = l.length - 1 - i := by omega
    have e2 : ((i : Int)).toNat = i := Int.toNat_natCast i
    rw [e1, e2]
    have e3 : (l.length : Int) - 1 - (i : Int) - 1 = (l.length : Int) - 1 - ((i + 1 : Nat) : Int) := by omega
    rw [e3]
    rfl
  · simp only [Bool.cond_eq_ite, decide_eq_true_eq]
    rw [if_neg (by omega)]

theorem order_end (P L : Int) (l y : List Ent) (hl : l.length ≤ 1000000) (hL : L ≤ 24 ∨ L > 256) (hm : ∀ e, e ∈ y ↔ e ∈ l) (hy : y.length = l.length) :
    (Option.bind (m14 (P, (L, (y, ())))) fun (y5 : ((List (Int × Int)) × Unit)) =>
        Option.bind (m14 (P, (L, (l, ())))) fun (y6 : ((List (Int × Int)) × Unit)) =>
        Option.bind (m13 (y5.1, (y6.1, ()))) fun (y7 : (Bool × Unit)) =>
        bif y7.1 then
          (Option.bind (m16 (y, ())) fun (y8 : (Int × Unit)) =>
          Option.bind (m16 (l, ())) fun (y9 : (Int × Unit)) =>
          some ((decide (y8.1 = y9.1)), ()))
        else
          (some (false, ()))) = some (true, ()) := by
  have fin : ∀ (u : List (Int × Int)), u.length ≤ 1000000 → m14 (P, (L, (y, ()))) = some (u, ()) → m14 (P, (L, (l, ()))) = some (u, ()) → (Option.bind (m14 (P, (L, (y, ())))) fun (y5 : ((List (Int × Int)) × Unit)) =>
        Option.bind (m14 (P, (L, (l, ())))) fun (y6 : ((List (Int × Int)) × Unit)) =>
        Option.bind (m13 (y5.1, (y6.1, ()))) fun (y7 : (Bool × Unit)) =>
        bif y7.1 then
          (Option.bind (m16 (y, ())) fun (y8 : (Int × Unit)) =>
          Option.bind (m16 (l, ())) fun (y9 : (Int × Unit)) =>
          some ((decide (y8.1 = y9.1)), ()))
        else
          (some (false, ()))) = some (true, ()) := by
    intro u hu e1 e2
    rw [e1, e2]
    simp only [Option.bind_some, m13_eq u hu, m16_eq l hl, m16_eq y (by omega), great_same hm]
    simp
  cases hs : shelfOk P L
  · exact fin [] (by simp) (m14_bad P L y hs) (m14_bad P L l hs)
  · have hs' := hs
    simp only [shelfOk, decide_eq_true_eq] at hs'
    have hmul := Int.mul_le_mul (a := P) (b := L) (c := 32) (d := 32) (by omega) (by omega) (by omega) (by omega)
    refine fin _ ?_ ?_ (m14_eq P L l hs (by omega) hl)
    · simp; omega
    · rw [m14_eq P L y hs (by omega) (by omega)]
      rw [show R P y = R P l from funext fun p => R_same (fun e _ => hm e) p]

theorem wf_u8 (t : Int) (h : (Lit.int .u8 t).wf = true) : 0 ≤ t ∧ t < 256 := by
  simp only [Lit.wf, Bool.and_eq_true, decide_eq_true_eq] at h
  have e1 : IntKind.min .u8 = 0 := rfl
  have e2 : IntKind.max .u8 = 255 := rfl
  omega

theorem ScanOrder_pure : ∀ x : AM.PDen [(true, (.pair (.int .i64) (.pair (.int .i64) (.pair (.int .i64) (.pair (.sl (.pair (.pair (.int .i64) (.int .i64)) (.pair (.int .i64) (.pair (.int .i64) (.pair (.int .i64) (.int .i64)))))) (.sl (.pair (.int .i64) (.int .i64)))))))), (false, (.int .u8))], AM.PWf _ x → m5 x = some (true, ()) := by
  suffices H : ∀ (P L s : Int) (l : List Ent) (pl : List (Int × Int)) (t : Int), 0 ≤ t → t < 256 → m5 ((P, (L, (s, (l, pl)))), (t, ())) = some (true, ()) from fun ⟨⟨P, L, s, l, pl⟩, ⟨t, ⟨⟩⟩⟩ h => by
    have hw' := wf_u8 t h.2.1
    exact H P L s l pl t hw'.1 hw'.2
  intro P L s l pl t t0 t1
  unfold m5
  rw [m11_eq]
  simp only [Option.bind_some, Bool.not_true, Bool.cond_false, m12]
  by_cases h1 : ((List.length l : Nat) : Int) ≤ 80
  · have hl : l.length ≤ 1000000 := by omega
    rw [m19_eq l hl]
    by_cases hf : ((List.length pl : Nat) : Int) ≤ 400 ∧ (L ≤ 24 ∨ L > 256)
    · have hfew : (bif decide (((List.length l : Nat) : Int) ≤ 80) then (bif decide (((List.length pl : Nat) : Int) ≤ 400) then (bif decide (L ≤ 24) then some (true, ()) else some (decide (L > 256), ())) else some (false, ())) else some (false, ())) = some (true, ()) := by
        simp only [Bool.cond_eq_ite, decide_eq_true_eq]
        rw [if_pos h1, if_pos hf.1]
        split
        · rfl
        · rw [decide_eq_true (by omega)]
      rw [hfew]
      simp only [Option.bind_some, Bool.not_true, Bool.cond_false]
      by_cases hn : ((List.length l : Nat) : Int) > 0
      · have hwt : Go.IntKind.wrap .i64 t = t := wrap64 (by omega) (by omega)
        obtain ⟨k, hk⟩ : ∃ k : Nat, Int.tmod t ((List.length l : Nat) : Int) = k := ⟨(Int.tmod t ((List.length l : Nat) : Int)).toNat, by have := Int.tmod_nonneg ((List.length l : Nat) : Int) t0; omega⟩
        have hk2 : (k : Int) < (List.length l : Nat) := by rw [← hk]; exact Int.tmod_lt_of_pos _ hn
        rw [hwt, hk]
        simp only [Int.toNat_natCast, Int.toNat_zero, Nat.sub_zero, List.drop_zero]
        have hrl : (List.drop k l ++ List.take k l).length = l.length := by simp; omega
        have hmem : ∀ e, e ∈ (List.drop k l ++ List.take k l) ↔ e ∈ l := by
          intro e
          rw [List.mem_append, or_comm, ← List.mem_append, List.take_append_drop]
        obtain ⟨y, hp, hy⟩ := rev_loop (List.drop k l ++ List.take k l) (by omega)
        rw [hy]
        have hfin := order_end P L l y hl hf.2 (fun e => (hp.mem_iff).trans (hmem e)) (by rw [hp.length_eq, hrl])
        rw [decide_eq_true hn]
        simp only [Bool.cond_true, List.length_append, List.length_drop, List.length_take]
        rw [if_neg (by omega), gd_pos (by omega), gd_pos (by omega), gd_pos (by omega), gd_pos (by omega), gd_pos (by omega), gd_pos (by omega), gd_pos (by omega), gd_pos (by omega)]
        exact hfin
      · rw [decide_eq_false hn]
        simp only [Bool.cond_false]
        obtain ⟨y, hp, hy⟩ := rev_loop l hl
        rw [hy]
        exact order_end P L l y hl hf.2 (fun e => hp.mem_iff) hp.length_eq
    · have hfew : (bif decide (((List.length l : Nat) : Int) ≤ 80) then (bif decide (((List.length pl : Nat) : Int) ≤ 400) then (bif decide (L ≤ 24) then some (true, ()) else some (decide (L > 256), ())) else some (false, ())) else some (false, ())) = some (false, ()) := by
        simp only [Bool.cond_eq_ite, decide_eq_true_eq]
        rw [if_pos h1]
        split
        · rw [if_neg (by omega), decide_eq_false (by omega)]
        · rfl
      rw [hfew]
      rfl
  · rw [decide_eq_false h1]; rfl
end Go.Proofs.Ytefekolpfklhdaa
