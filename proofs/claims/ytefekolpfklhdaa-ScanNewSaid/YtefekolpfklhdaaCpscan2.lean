/- The newest of what was found does not hang on the order; what is older counts for nothing. -/
import Derived.Test.YtefekolpfklhdaaCpscan
import Derived.Test.YtefekolpfklhdaaFnScanNew
set_option maxRecDepth 2000
set_option linter.unusedVariables false
set_option linter.unusedSimpArgs false
namespace Go.Proofs.Ytefekolpfklhdaa
open Go Go.Proofs.AM

theorem bt_iff (a b : Ent) : bt a b = true ↔ (a.2.2.2.1 > b.2.2.2.1 ∨ (a.2.2.2.1 = b.2.2.2.1 ∧ (a.2.2.2.2 < b.2.2.2.2 ∨ (a.2.2.2.2 = b.2.2.2.2 ∧ (a.1.1 < b.1.1 ∨ (a.1.1 = b.1.1 ∧ a.1.2 < b.1.2)))))) := by
  unfold bt newer
  simp only [Bool.or_eq_true, Bool.and_eq_true, Bool.not_eq_true', decide_eq_true_eq, decide_eq_false_iff_not]
  omega

def Has (P p : Int) (e : Ent) : Prop := okE P e = true ∧ e.2.2.1 = p

def Best (P p : Int) (d : List Ent) (o : Option Ent) : Prop :=
  (o = none ∧ ∀ e ∈ d, ¬ Has P p e) ∨ ∃ b ∈ d, o = some b ∧ Has P p b ∧ ∀ e ∈ d, Has P p e → ¬ bt e b = true

theorem best_spec (P p : Int) (l : List Ent) : Best P p l (best P p l) := by
  suffices H : ∀ (l d : List Ent) (o : Option Ent), Best P p d o → Best P p (d ++ l) (l.foldl (bestStep P p) o) by
    exact H l [] none (.inl ⟨rfl, by simp⟩)
  intro l
  induction l with
  | nil => intro d o h; simpa using h
  | cons e l ih =>
    intro d o h
    have hs : Best P p (d ++ [e]) (bestStep P p o e) := by
      unfold bestStep
      by_cases hc : okE P e = true ∧ e.2.2.1 = p
      · rw [if_pos hc]
        rcases h with ⟨rfl, h⟩ | ⟨b, hb, rfl, hP, h⟩
        · refine .inr ⟨e, by simp, rfl, hc, fun x hx hx2 => ?_⟩
          rcases List.mem_append.1 hx with hx | hx
          · exact absurd hx2 (h x hx)
          · obtain rfl : x = e := by simpa using hx
            rw [bt_iff]; omega
        · by_cases hbt : bt e b = true
          · simp only [hbt, if_true]
            refine .inr ⟨e, by simp, rfl, hc, fun x hx hx2 => ?_⟩
            rcases List.mem_append.1 hx with hx | hx
            · have := h x hx hx2
              rw [bt_iff] at this hbt ⊢
              omega
            · obtain rfl : x = e := by simpa using hx
              rw [bt_iff]; omega
          · simp only [hbt]
            refine .inr ⟨b, by simp [hb], rfl, hP, fun x hx hx2 => ?_⟩
            rcases List.mem_append.1 hx with hx | hx
            · exact h x hx hx2
            · obtain rfl : x = e := by simpa using hx
              exact hbt
      · rw [if_neg hc]
        rcases h with ⟨rfl, h⟩ | ⟨b, hb, rfl, hP, h⟩
        · refine .inl ⟨rfl, fun x hx => ?_⟩
          rcases List.mem_append.1 hx with hx | hx
          · exact h x hx
          · obtain rfl : x = e := by simpa using hx
            exact hc
        · refine .inr ⟨b, by simp [hb], rfl, hP, fun x hx hx2 => ?_⟩
          rcases List.mem_append.1 hx with hx | hx
          · exact h x hx hx2
          · obtain rfl : x = e := by simpa using hx
            exact absurd hx2 hc
    have := ih (d ++ [e]) _ hs
    simpa using this

theorem R_same {P : Int} {l l' : List Ent} (h : ∀ e, okE P e = true → (e ∈ l ↔ e ∈ l')) (p : Nat) : R P l p = R P l' p := by
  unfold R
  rcases best_spec P p l with ⟨e1, h1⟩ | ⟨b, hb, e1, hP, h1⟩ <;> rcases best_spec P p l' with ⟨e2, h2⟩ | ⟨b', hb', e2, hP', h2⟩
  · rw [e1, e2]
  · exact absurd hP' (h1 b' ((h b' hP'.1).2 hb'))
  · exact absurd hP (h2 b ((h b hP.1).1 hb))
  · rw [e1, e2]
    have a1 := h1 b' ((h b' hP'.1).2 hb') hP'
    have a2 := h2 b ((h b hP.1).1 hb) hP
    rw [bt_iff] at a1 a2
    exact Prod.ext (by simp only; omega) (by simp only; omega)

theorem R_old {P : Int} {l : List Ent} {f old : Ent} (hf : f ∈ l) (hk : okE P f = true) (hp : old.2.2.1 = f.2.2.1) (hb : bt f old = true) (p : Nat) : R P (l ++ [old]) p = R P l p := by
  unfold R
  rw [best_snoc]
  unfold bestStep
  by_cases hc : okE P old = true ∧ old.2.2.1 = (p : Int)
  · rw [if_pos hc]
    rcases best_spec P p l with ⟨e1, h1⟩ | ⟨b, hb', e1, hP, h1⟩
    · exact absurd ⟨hk, hp ▸ hc.2⟩ (h1 f hf)
    · rw [e1]
      have := h1 f hf ⟨hk, hp ▸ hc.2⟩
      have hn : ¬ bt old b = true := by rw [bt_iff] at this hb ⊢; omega
      simp only [hn]
      rfl
  · rw [if_neg hc]

theorem great_spec (l : List Ent) : ∀ n, n ≤ l.length → 0 ≤ great l n ∧ (∀ e ∈ l.take n, chk e.2 = true → e.2.2.2.2 ≤ great l n) ∧ (great l n = 0 ∨ ∃ e ∈ l.take n, chk e.2 = true ∧ e.2.2.2.2 = great l n)
  | 0, _ => ⟨by simp [great], by simp, .inl rfl⟩
  | n + 1, h => by
    obtain ⟨h1, h2, h3⟩ := great_spec l n (by omega)
    rw [take_snoc l n (by omega) ((0, 0), (0, (0, (0, 0))))]
    unfold great
    generalize he : l.getD n ((0, 0), (0, (0, (0, 0)))) = e
    by_cases hc : chk e.2 = true
    · rw [if_pos hc]
      by_cases hg : e.2.2.2.2 > great l n
      · rw [if_pos hg]
        refine ⟨by omega, fun x hx hx2 => ?_, .inr ⟨e, by simp, hc, rfl⟩⟩
        rcases List.mem_append.1 hx with hx | hx
        · have := h2 x hx hx2; omega
        · obtain rfl : x = e := by simpa using hx
          omega
      · rw [if_neg hg]
        refine ⟨h1, fun x hx hx2 => ?_, ?_⟩
        · rcases List.mem_append.1 hx with hx | hx
          · exact h2 x hx hx2
          · obtain rfl : x = e := by simpa using hx
            omega
        · rcases h3 with h3 | ⟨x, hx, h3⟩
          · exact .inl h3
          · exact .inr ⟨x, by simp [hx], h3⟩
    · rw [if_neg hc]
      refine ⟨h1, fun x hx hx2 => ?_, ?_⟩
      · rcases List.mem_append.1 hx with hx | hx
        · exact h2 x hx hx2
        · obtain rfl : x = e := by simpa using hx
          exact absurd hx2 hc
      · rcases h3 with h3 | ⟨x, hx, h3⟩
        · exact .inl h3
        · exact .inr ⟨x, by simp [hx], h3⟩

theorem great_same {l l' : List Ent} (h : ∀ e, e ∈ l ↔ e ∈ l') : great l l.length = great l' l'.length := by
  obtain ⟨a1, a2, a3⟩ := great_spec l l.length (Nat.le_refl _)
  obtain ⟨b1, b2, b3⟩ := great_spec l' l'.length (Nat.le_refl _)
  rw [List.take_length] at a2 a3 b2 b3
  have le1 : great l l.length ≤ great l' l'.length := by
    rcases a3 with a3 | ⟨e, he, hc, a3⟩
    · omega
    · rw [← a3]; exact b2 e ((h e).1 he) hc
  have le2 : great l' l'.length ≤ great l l.length := by
    rcases b3 with b3 | ⟨e, he, hc, b3⟩
    · omega
    · rw [← b3]; exact a2 e ((h e).2 he) hc
  omega

theorem m19_eq (l : List Ent) (h : l.length ≤ 1000000) : m19 (l, ()) = some l := by
  unfold m19
  simp only [Bool.cond_eq_ite, decide_eq_true_eq]
  have h1 : (List.length ([] : List Ent) + l.length) * 48 ≤ 140737488355328 := by simp; omega
  have h2 : List.length ([] : List Ent) + l.length ≤ 140737488355328 := by simp; omega
  rw [gd_pos h1, gd_pos h2]
  by_cases h0 : ((l.length : Nat) : Int) = 0
  · rw [if_pos h0]
    obtain rfl : l = [] := List.length_eq_zero_iff.1 (by omega)
    simp [both]
  · rw [if_neg h0]
    simp [both]
end Go.Proofs.Ytefekolpfklhdaa
