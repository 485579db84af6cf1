/- What is older than something of the same page counts for nothing: the plain law of ScanOld. -/
import Derived.Test.YtefekolpfklhdaaFnScanOld
import Derived.Test.YtefekolpfklhdaaCpscan2
set_option maxRecDepth 2000
set_option linter.unusedVariables false
set_option linter.unusedSimpArgs false
namespace Go.Proofs.Ytefekolpfklhdaa
open Go Go.Proofs.AM

theorem wf_u8' (t : Int) (h : (Lit.int .u8 t).wf = true) : 0 ≤ t ∧ t < 256 := by
  simp only [Lit.wf, Bool.and_eq_true, decide_eq_true_eq] at h
  have e1 : IntKind.min .u8 = 0 := rfl
  have e2 : IntKind.max .u8 = 255 := rfl
  omega

theorem old_end (P L : Int) (l : List Ent) (f old : Ent) (hl : l.length ≤ 100000) (hL : L ≤ 24 ∨ L > 256) (hf : f ∈ l) (hk : okE P f = true) (hp : old.2.2.1 = f.2.2.1) (hb : bt f old = true) :
    (Option.bind (m14 (P, (L, (l ++ [old], ())))) fun (y5 : ((List (Int × Int)) × Unit)) =>
        Option.bind (m14 (P, (L, (l, ())))) fun (y6 : ((List (Int × Int)) × Unit)) =>
        Option.bind (m13 (y5.1, (y6.1, ()))) fun (y7 : (Bool × Unit)) =>
        some (y7.1, ())) = some (true, ()) := by
  have fin : ∀ (u : List (Int × Int)), u.length ≤ 1000000 → m14 (P, (L, (l ++ [old], ()))) = some (u, ()) → m14 (P, (L, (l, ()))) = some (u, ()) → (Option.bind (m14 (P, (L, (l ++ [old], ())))) fun (y5 : ((List (Int × Int)) × Unit)) =>
        Option.bind (m14 (P, (L, (l, ())))) fun (y6 : ((List (Int × Int)) × Unit)) =>
        Option.bind (m13 (y5.1, (y6.1, ()))) fun (y7 : (Bool × Unit)) =>
        some (y7.1, ())) = some (true, ()) := by
    intro u hu e1 e2
    rw [e1, e2]
    simp only [Option.bind_some, m13_eq u hu]
  cases hs : shelfOk P L
  · exact fin [] (by simp) (m14_bad P L _ hs) (m14_bad P L l hs)
  · have hs' := hs
    simp only [shelfOk, decide_eq_true_eq] at hs'
    have hmul := Int.mul_le_mul (a := P) (b := L) (c := 32) (d := 32) (by omega) (by omega) (by omega) (by omega)
    refine fin _ ?_ ?_ (m14_eq P L l hs (by omega) (by omega))
    · simp; omega
    · rw [m14_eq P L _ hs (by omega) (by simp; omega)]
      rw [show R P (l ++ [old]) = R P l from funext fun p => R_old hf hk hp hb p]

theorem ScanOld_pure : ∀ x : AM.PDen [(true, (.pair (.int .i64) (.pair (.int .i64) (.pair (.int .i64) (.pair (.sl (.pair (.pair (.int .i64) (.int .i64)) (.pair (.int .i64) (.pair (.int .i64) (.pair (.int .i64) (.int .i64)))))) (.sl (.pair (.int .i64) (.int .i64)))))))), (true, (.pair (.int .u8) (.pair (.pair (.int .i64) (.int .i64)) (.int .u8))))], AM.PWf _ x → m4 x = some (true, ()) := by
  suffices H : ∀ (P L s : Int) (l : List Ent) (pl : List (Int × Int)) (t : Int) (pa : Int × Int) (b : Int), 0 ≤ t → t < 256 → 0 ≤ b → b < 256 → m4 ((P, (L, (s, (l, pl)))), ((t, (pa, b)), ())) = some (true, ()) from fun ⟨⟨P, L, s, l, pl⟩, ⟨⟨t, pa, b⟩, ⟨⟩⟩⟩ h => by
    have hw := wf_u8' t h.2.1.1
    have hb := wf_u8' b h.2.1.2.2
    exact H P L s l pl t pa b hw.1 hw.2 hb.1 hb.2
  intro P L s l pl t pa b t0 t1 b0 b1
  unfold m4
  rw [m11_eq]
  simp only [Option.bind_some, Bool.not_true, Bool.cond_false, m12]
  by_cases h1 : ((List.length l : Nat) : Int) ≤ 80
  · have hl : l.length ≤ 1000000 := by omega
    rw [m19_eq l hl]
    by_cases hf : ((List.length pl : Nat) : Int) ≤ 400 ∧ (L ≤ 24 ∨ L > 256)
    · have hfew : (bif decide (((List.length l : Nat) : Int) ≤ 80) then (bif decide (((List.length pl : Nat) : Int) ≤ 400) then (bif decide (L ≤ 24) then some (true, ()) else some (decide (L > 256), ())) else some (false, ())) else some (false, ())) = some (true, ()) := by
        simp only [Bool.cond_eq_ite, decide_eq_true_eq]
        rw [if_pos h1, if_pos hf.1]
        split
        · rfl
        · rw [decide_eq_true (by omega)]
      rw [hfew]
      simp only [Option.bind_some, Bool.not_true, Bool.cond_false]
      by_cases hn : ((List.length l : Nat) : Int) = 0
      · rw [decide_eq_true hn]; rfl
      · have hwt : Go.IntKind.wrap .i64 t = t := wrap64 (by omega) (by omega)
        have hwb : Go.IntKind.wrap .i64 b = b := wrap64 (by omega) (by omega)
        obtain ⟨k, hk⟩ : ∃ k : Nat, Int.tmod t ((List.length l : Nat) : Int) = k := ⟨(Int.tmod t ((List.length l : Nat) : Int)).toNat, by have := Int.tmod_nonneg ((List.length l : Nat) : Int) t0; omega⟩
        have hk2 : (k : Int) < (List.length l : Nat) := by rw [← hk]; exact Int.tmod_lt_of_pos _ (by omega)
        rw [hwt, hwb, hk]
        simp only [Int.toNat_natCast]
        obtain ⟨f, hfe⟩ : ∃ f, l.getD k ((0, 0), (0, (0, (0, 0)))) = f := ⟨_, rfl⟩
        have hfm : f ∈ l := by
          rw [← hfe, List.getD_eq_getElem?_getD, List.getElem?_eq_getElem (by omega)]
          exact List.getElem_mem _
        simp only [List.length_singleton, hfe]
        rw [decide_eq_false hn]
        simp only [Bool.cond_false, m18_eq, Option.bind_some]
        rw [if_neg hn, gd_pos (by omega), gd_pos (by omega)]
        cases hc : chk f.2
        · rfl
        · by_cases c : ¬ f.2.1 = 3 ∧ 0 ≤ f.1.1 ∧ f.1.1 < 256 ∧ 0 ≤ f.1.2 ∧ f.1.2 < P
          · have hok : okE P f = true := by simp only [okE, hc, Bool.true_and, decide_eq_true_eq]; exact c
            have hc' := hc
            simp only [chk, decide_eq_true_eq] at hc'
            rw [decide_eq_false c.1, decide_eq_false (show ¬ f.1.1 < 0 by omega), decide_eq_false (show ¬ f.1.1 ≥ 256 by omega), decide_eq_false (show ¬ f.1.2 < 0 by omega), decide_eq_false (show ¬ f.1.2 ≥ P by omega)]
            simp only [if_true, decide_true, Bool.not_true, Bool.cond_false]
            rw [wrap64 (n := f.2.2.2.1 - b) (by omega) (by omega), wrap64 (n := f.2.2.2.2 + 1) (by omega) (by omega)]
            rw [gd_pos (by omega), gd_pos (by omega), gd_pos (by omega), gd_pos (by omega)]
            by_cases hb : b > 0
            · rw [decide_eq_true hb]
              exact old_end P L l f _ (by omega) hf.2 hfm hok rfl (by rw [bt_iff]; simp only; omega)
            · rw [decide_eq_false hb]
              exact old_end P L l f _ (by omega) hf.2 hfm hok rfl (by rw [bt_iff]; simp only; right; exact ⟨trivial, by omega⟩)
          · simp only [if_true, decide_true, Bool.not_true, Bool.cond_false, Bool.cond_eq_ite, decide_eq_true_eq]
            repeat' split
            all_goals first | rfl | (exfalso; omega)
    · have hfew : (bif decide (((List.length l : Nat) : Int) ≤ 80) then (bif decide (((List.length pl : Nat) : Int) ≤ 400) then (bif decide (L ≤ 24) then some (true, ()) else some (decide (L > 256), ())) else some (false, ())) else some (false, ())) = some (false, ()) := by
        simp only [Bool.cond_eq_ite, decide_eq_true_eq]
        rw [if_pos h1]
        split
        · rw [if_neg (by omega), decide_eq_false (by omega)]
        · rfl
      rw [hfew]
      rfl
  · rw [decide_eq_false h1]; rfl
end Go.Proofs.Ytefekolpfklhdaa
