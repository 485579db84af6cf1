/- What the functions of this claim compute, each shown by the kernel, and what that comes to, with no program in sight. No condition. -/
import Derived.Test.YtefekolpfklhdaaCa
set_option maxRecDepth 2000
set_option linter.unusedVariables false
set_option linter.unusedSimpArgs false
section
/- What a table is checked for, with no program in sight. -/
namespace Go.Proofs.Ytefekolpfklhdaa
open Go Go.Proofs.AM

abbrev Tab := Int × (Int × (Int × (List Int × (List Bool × ((Int × (Int × Int)) × List (Int × List Int))))))

def shape (P L K : Int) : Prop := 4 ≤ P ∧ P ≤ 32 ∧ 1 ≤ L ∧ L ≤ 256 ∧ 1 ≤ K ∧ K ≤ 8

theorem shape_mul {P L K : Int} (h : shape P L K) : 0 < P * L ∧ P * L ≤ 8192 ∧ L * P = P * L := by
  obtain ⟨h1, h2, h3, h4, _⟩ := h
  have := Int.mul_le_mul (a := P) (b := L) (c := 32) (d := 256) (by omega) (by omega) (by omega) (by omega)
  exact ⟨Int.mul_pos (by omega) (by omega), by omega, Int.mul_comm _ _⟩

theorem m43_shape (P L K : Int) : Ok (m43 (P, (L, (K, ())))) (fun r => r.2.1 = 0 → shape P L K) := by
  unfold m43
  refine Ok.cond (fun _ => Ok.some (fun h => by simp at h)) (fun h1 => ?_)
  refine Ok.cond (fun _ => Ok.some (fun h => by simp at h)) (fun h2 => ?_)
  refine Ok.cond (fun _ => Ok.some (fun h => by simp at h)) (fun h3 => ?_)
  refine Ok.cond (fun _ => Ok.some (fun h => by simp at h)) (fun h4 => ?_)
  refine Ok.cond (fun _ => Ok.some (fun h => by simp at h)) (fun h5 => ?_)
  refine Ok.cond (fun _ => Ok.some (fun h => by simp at h)) (fun h6 => ?_)
  simp only at h1 h2 h3 h4 h5 h6
  have hs : shape P L K := ⟨by omega, by omega, by omega, by omega, by omega, by omega⟩
  have hm := shape_mul hs
  obtain ⟨N, rfl⟩ : ∃ N : Nat, L = N := ⟨L.toNat, by omega⟩
  refine Ok.bind (S := fun _ => True) (Ok.loop N (fun i x => x.1 = (i : Int) ∧ x.2.2.2.2.1.length = i) ⟨rfl, rfl⟩ ?_) fun y _ => ?_
  · rintro i ⟨x1, x2, x3, x4, x5, x6⟩ hi ⟨hx, hl⟩
    simp only at hx hl
    subst hx
    refine Ok.cond (fun hc => ?_) (fun _ => Ok.inr trivial)
    simp only at hc
    refine Ok.gd (by simp; omega) (Ok.gd (by simp; omega) (Ok.inl ⟨by omega, ?_, ?_⟩))
    · simp only; rw [wrap64 (by omega) (by omega)]; simp
    · simp [hl]
  · simp only
    rw [wrap64 (by omega) (by omega)]
    exact Ok.gd (by omega) (Ok.gd (by omega) (Ok.gd (by omega) (Ok.some fun _ => hs)))

theorem m51_ok (t : Tab) : Ok (m51 (t, ())) (fun r => r.1 = true → t.2.2.2.2.2.1.1 < 0 → t.2.2.2.2.2.1 = (-1, (0, 0))) := by
  obtain ⟨P, L, K, D, H, ⟨s1, s2, s3⟩, G⟩ := t
  unfold m51
  refine Ok.cond (fun _ => ?_) (fun h => ?_)
  · refine Ok.cond (fun h1 => ?_) (fun _ => Ok.some (fun h => by simp at h))
    refine Ok.cond (fun h2 => Ok.some fun h3 _ => ?_) (fun _ => Ok.some (fun h => by simp at h))
    simp only [decide_eq_true_eq] at h1 h2 h3
    simp [h1, h2, h3]
  · simp only at h
    refine Ok.cond (fun _ => ?_) (fun _ => Ok.some (fun _ h' => absurd h' h))
    refine Ok.cond (fun _ => ?_) (fun _ => Ok.some (fun _ h' => absurd h' h))
    exact Ok.cond (fun _ => Ok.some (fun _ h' => absurd h' h)) (fun _ => Ok.some (fun _ h' => absurd h' h))

theorem set_len {A : Type} {l : List A} {n i : Nat} {x : A} (h : l.length = n) : (l.set i x).length = n := by simp [h]

theorem m52_ok (P L K : Int) (D : List Int) (H : List Bool) (S : Int × (Int × Int)) (G : List (Int × List Int)) (hs : shape P L K) :
    Ok (m52 ((P, (L, (K, (D, (H, (S, G)))))), ())) (fun r => r.1 = true → (G.length : Int) ≤ K ∧ ∀ i, i < G.length → 0 ≤ (G.getD i (0, [])).1) := by
  have hm := shape_mul hs
  unfold m52
  refine Ok.cond (fun _ => Ok.some (fun h => by simp at h)) (fun h1 => ?_)
  simp only at h1 ⊢
  have hK := hs.2.2.2.2.2
  rw [wrap64 (n := P * L) (by omega) (by omega)]
  refine Ok.gd (by omega) (Ok.gd (by omega) (Ok.gd (by omega) ?_))
  -- the pages of a log
  have inner : ∀ (i : Nat) (seen : List Bool), seen.length = (P * L).toNat → ((G.getD i (0, [])).2.length : Int) ≤ P → ∀ f : Int × List Bool → Option ((Int × List Bool) ⊕ (List Bool ⊕ (Bool × List Bool))),
      (∀ (j : Nat) (s : List Bool), s.length = (P * L).toNat → j ≤ (G.getD i (0, [])).2.length → Ok (f ((j : Int), s)) (fun s => s.elim (fun y => j < (G.getD i (0, [])).2.length ∧ (y.1 = ((j + 1 : Nat) : Int) ∧ y.2.length = (P * L).toNat)) (fun e => match e with | .inl v => v.length = (P * L).toNat | .inr v => v.1 = false))) →
      Ok (loopM f ((0 : Int), seen)) (fun e => match e with | .inl v => v.length = (P * L).toNat | .inr v => v.1 = false) := by
    intro i seen hl _ f hf
    refine Ok.loop (G.getD i (0, [])).2.length (fun j x => x.1 = (j : Int) ∧ x.2.length = (P * L).toNat) ⟨rfl, hl⟩ ?_
    rintro j ⟨x1, x2⟩ hj ⟨hx, hl2⟩
    simp only at hx hl2
    subst hx
    exact hf j x2 hl2 hj
  refine Ok.bind (S := fun e => match e with | .inl _ => ∀ i, i < G.length → 0 ≤ (G.getD i (0, [])).1 | .inr v => v.1 = false) (Ok.loop G.length (fun i x => x.1 = (i : Int) ∧ x.2.length = (P * L).toNat ∧ ∀ k, k < i → 0 ≤ (G.getD k (0, [])).1) ⟨rfl, by simp, fun k hk => by omega⟩ ?_) fun y hy => ?_
  · rintro i ⟨x1, x2⟩ hi ⟨hx, hl, hg⟩
    simp only at hx hl
    subst hx
    refine Ok.cond (fun hc => ?_) (fun hc => Ok.inr (fun k hk => hg k (by simp only at hc; omega)))
    simp only [Int.toNat_natCast] at hc ⊢
    refine Ok.gd (by omega) (Ok.gd (by omega) ?_)
    refine Ok.cond (fun _ => Ok.inr rfl) (fun h2 => ?_)
    refine Ok.cond (fun _ => Ok.inr rfl) (fun h3 => ?_)
    rw [wrap64 (n := (i : Int) + 1) (by omega) (by omega)]
    have key : ∀ f : Int × List Bool → Option ((Int × List Bool) ⊕ (List Bool ⊕ (Bool × List Bool))),
        (∀ (j : Nat) (s : List Bool), s.length = (P * L).toNat → j ≤ (G.getD i (0, [])).2.length → Ok (f ((j : Int), s)) (fun s => s.elim (fun y => j < (G.getD i (0, [])).2.length ∧ (y.1 = ((j + 1 : Nat) : Int) ∧ y.2.length = (P * L).toNat)) (fun e => match e with | .inl v => v.length = (P * L).toNat | .inr v => v.1 = false))) →
        Ok (Option.bind (loopM f ((0 : Int), x2)) fun (y2 : ((List Bool) ⊕ (Bool × (List Bool)))) =>
          Sum.elim (fun y3 => some (Sum.inl (((i : Int) + 1), y3))) (fun y3 => some (Sum.inr (Sum.inr (y3.1, y3.2)))) y2)
          (fun s => s.elim (fun y => i < G.length ∧ (y.1 = ((i + 1 : Nat) : Int) ∧ y.2.length = (P * L).toNat ∧ ∀ k, k < i + 1 → 0 ≤ (G.getD k (0, [])).1)) (fun e : List Bool ⊕ (Bool × List Bool) => match e with | .inl _ => ∀ i, i < G.length → 0 ≤ (G.getD i (0, [])).1 | .inr v => v.1 = false)) := by
      intro f hf
      refine Ok.bind (inner i x2 hl (by omega) f hf) fun y hy => ?_
      refine Ok.elim (fun v e => ?_) (fun v e => ?_)
      · subst e
        refine Ok.inl ⟨by omega, by simp, hy, fun k hk => ?_⟩
        by_cases e : k = i
        · subst e; omega
        · exact hg k (by omega)
      · subst e
        exact Ok.inr hy
    have body : ∀ (j : Nat) (s : List Bool), s.length = (P * L).toNat → j ≤ (G.getD i (0, [])).2.length → Ok ((fun (x2 : (Int × (List Bool))) =>
                                bif (decide (x2.1 < (((List.length (List.getD G i ((0 : Int), ([] : List Int))).2) : Nat) : Int))) then
                                  (gd ((0 : Int) ≤ x2.1) (gd (x2.1 < (((List.length (List.getD G i ((0 : Int), ([] : List Int))).2) : Nat) : Int)) (bif (decide ((List.getD (List.getD G i ((0 : Int), ([] : List Int))).2 (Int.toNat x2.1) (0 : Int)) < (-1 : Int))) then
                                        (some (Sum.inr (Sum.inr (false, x2.2))))
                                      else
                                        (bif (decide ((List.getD (List.getD G i ((0 : Int), ([] : List Int))).2 (Int.toNat x2.1) (0 : Int)) ≥ P * L)) then
                                          (some (Sum.inr (Sum.inr (false, x2.2))))
                                        else
                                          (bif (decide ((List.getD (List.getD G i ((0 : Int), ([] : List Int))).2 (Int.toNat x2.1) (0 : Int)) ≥ (0 : Int))) then
                                            (gd ((0 : Int) ≤ (List.getD (List.getD G i ((0 : Int), ([] : List Int))).2 (Int.toNat x2.1) (0 : Int))) (gd ((List.getD (List.getD G i ((0 : Int), ([] : List Int))).2 (Int.toNat x2.1) (0 : Int)) < (((List.length x2.2) : Nat) : Int)) (gd ((Int.toNat (List.getD (List.getD G i ((0 : Int), ([] : List Int))).2 (Int.toNat x2.1) (0 : Int))) < (List.length x2.2)) (bif (List.getD x2.2 (Int.toNat (List.getD (List.getD G i ((0 : Int), ([] : List Int))).2 (Int.toNat x2.1) (0 : Int))) false) then
                                                    (some (Sum.inr (Sum.inr (false, x2.2))))
                                                  else
                                                    (bif (decide ((List.getD (List.getD G i ((0 : Int), ([] : List Int))).2 (Int.toNat x2.1) (0 : Int)) ≥ (0 : Int))) then
                                                      (gd ((0 : Int) ≤ (List.getD (List.getD G i ((0 : Int), ([] : List Int))).2 (Int.toNat x2.1) (0 : Int))) (gd ((List.getD (List.getD G i ((0 : Int), ([] : List Int))).2 (Int.toNat x2.1) (0 : Int)) < (((List.length x2.2) : Nat) : Int)) (gd ((Int.toNat (List.getD (List.getD G i ((0 : Int), ([] : List Int))).2 (Int.toNat x2.1) (0 : Int))) < (List.length x2.2)) (some (Sum.inl ((Go.IntKind.wrap .i64 (x2.1 + (1 : Int))), (List.set x2.2 (Int.toNat (List.getD (List.getD G i ((0 : Int), ([] : List Int))).2 (Int.toNat x2.1) (0 : Int))) true)))))))
                                                    else
                                                      (some (Sum.inl ((Go.IntKind.wrap .i64 (x2.1 + (1 : Int))), x2.2))))))))
                                          else
                                            (bif (decide ((List.getD (List.getD G i ((0 : Int), ([] : List Int))).2 (Int.toNat x2.1) (0 : Int)) ≥ (0 : Int))) then
                                              (gd ((0 : Int) ≤ (List.getD (List.getD G i ((0 : Int), ([] : List Int))).2 (Int.toNat x2.1) (0 : Int))) (gd ((List.getD (List.getD G i ((0 : Int), ([] : List Int))).2 (Int.toNat x2.1) (0 : Int)) < (((List.length x2.2) : Nat) : Int)) (gd ((Int.toNat (List.getD (List.getD G i ((0 : Int), ([] : List Int))).2 (Int.toNat x2.1) (0 : Int))) < (List.length x2.2)) (some (Sum.inl ((Go.IntKind.wrap .i64 (x2.1 + (1 : Int))), (List.set x2.2 (Int.toNat (List.getD (List.getD G i ((0 : Int), ([] : List Int))).2 (Int.toNat x2.1) (0 : Int))) true)))))))
                                            else
                                              (some (Sum.inl ((Go.IntKind.wrap .i64 (x2.1 + (1 : Int))), x2.2)))))))))
                                else
                                  (some (Sum.inr (Sum.inl x2.2)))) ((j : Int), s)) (fun s => s.elim (fun y => j < (G.getD i (0, [])).2.length ∧ (y.1 = ((j + 1 : Nat) : Int) ∧ y.2.length = (P * L).toNat)) (fun e : List Bool ⊕ (Bool × List Bool) => match e with | .inl v => v.length = (P * L).toNat | .inr v => v.1 = false)) := by
      intro j s hs hj
      have hP := hs
      have hp32 : P ≤ 32 := by have := ‹shape P L K›.2.1; exact this
      refine Ok.cond (fun hc => ?_) (fun _ => Ok.inr hs)
      simp only [Int.toNat_natCast] at hc ⊢
      rw [wrap64 (n := (j : Int) + 1) (by omega) (by omega)]
      refine Ok.gd (by omega) (Ok.gd (by omega) ?_)
      refine Ok.cond (fun _ => Ok.inr rfl) (fun q1 => ?_)
      refine Ok.cond (fun _ => Ok.inr rfl) (fun q2 => ?_)
      refine Ok.cond (fun q3 => ?_) (fun q3 => ?_)
      · refine Ok.gd (by omega) (Ok.gd (by omega) (Ok.gd (by omega) ?_))
        refine Ok.condb (fun _ => Ok.inr rfl) (fun _ => ?_)
        refine Ok.cond (fun _ => ?_) (fun h => absurd q3 h)
        exact Ok.gd (by omega) (Ok.gd (by omega) (Ok.gd (by omega) (Ok.inl ⟨by omega, by simp, set_len hs⟩)))
      · exact Ok.cond (fun h => absurd h q3) (fun _ => Ok.inl ⟨by omega, by simp, hs⟩)
    refine Ok.cond (fun _ => ?_) (fun _ => ?_)
    · refine Ok.ncond (fun _ => Ok.inr rfl) (fun _ => ?_)
      exact key _ body
    · exact key _ body
  · refine Ok.elim (fun v e => ?_) (fun v e => ?_)
    · subst e
      exact Ok.some fun _ => ⟨by omega, hy⟩
    · subst e
      exact Ok.some fun h => by rw [hy] at h; simp at h

/-- The numbers of blocks that are one, of a list. -/
def posi (D : List Int) : List Int := D.filter fun x => decide (0 ≤ x)

theorem posi_snoc (D : List Int) (x : Int) : posi (D ++ [x]) = if 0 ≤ x then posi D ++ [x] else posi D := by
  unfold posi
  rw [List.filter_append]
  by_cases h : 0 ≤ x <;> simp [h]

theorem posi_len (D : List Int) : (posi D).length ≤ D.length := List.length_filter_le _ _

theorem m53_ok (P L K : Int) (D : List Int) (H : List Bool) (S : Int × (Int × Int)) (G : List (Int × List Int)) (hD : D.length ≤ 256) (hG : G.length ≤ 8) (hp : ∀ i, i < G.length → 0 ≤ (G.getD i (0, [])).1) :
    Ok (m53 ((P, (L, (K, (D, (H, (S, G)))))), ())) (fun r => (∀ x ∈ r.1, 0 ≤ x) ∧ r.1.length ≤ 300 ∧ (S.1 < 0 → G = [] → r.1 = posi D)) := by
  unfold m53
  refine Ok.bind (S := fun y => y = posi D) (Ok.loop D.length (fun i x => x.2 = (i : Int) ∧ x.1 = posi (D.take i)) ⟨rfl, rfl⟩ ?_) fun y hy => ?_
  · rintro i ⟨x1, x2⟩ hi ⟨hx, hl⟩
    simp only at hx hl
    subst hx hl
    refine Ok.cond (fun hc => ?_) (fun hc => Ok.inr ?_)
    · simp only [Int.toNat_natCast] at hc ⊢
      have hlen := posi_len (D.take i)
      simp only [List.length_take] at hlen
      rw [wrap64 (n := (i : Int) + 1) (by omega) (by omega), take_snoc D i (by omega) 0, posi_snoc]
      refine Ok.gd (by omega) (Ok.gd (by omega) ?_)
      refine Ok.cond (fun q => ?_) (fun q => Ok.inl ⟨by omega, by simp, by simp only; rw [if_neg (by omega)]⟩)
      refine Ok.gd (by omega) (Ok.gd (by omega) (Ok.gd (by simp; omega) (Ok.gd (by simp; omega) (Ok.inl ⟨by omega, by simp, by simp only; rw [if_pos (by omega)]⟩))))
    · simp only at hc
      rw [List.take_of_length_le (by omega)]
  · subst hy
    have hlen := posi_len D
    have hpos : ∀ x ∈ posi D, 0 ≤ x := fun x hx => by simpa using (List.mem_filter.1 hx).2
    have rest : ∀ y : List Int, (∀ x ∈ y, 0 ≤ x) → y.length ≤ 257 → ∀ T : List Int × Unit → Prop, (∀ z : List Int, (∀ x ∈ z, 0 ≤ x) → z.length ≤ 300 → (G = [] → z = y) → T (z, ())) →
        Ok (Option.bind (loopM (X := ((List Int) × Int)) (E := (List Int)) (fun (x2 : ((List Int) × Int)) =>
        bif (decide (x2.2 < (((List.length G) : Nat) : Int))) then
          (gd ((0 : Int) ≤ x2.2) (gd (x2.2 < (((List.length G) : Nat) : Int)) (gd ((((List.length x2.1) + (List.length ((List.getD G (Int.toNat x2.2) ((0 : Int), ([] : List Int))).1 :: ([] : List Int)))) * 8) ≤ 140737488355328) (gd (((List.length x2.1) + (List.length ((List.getD G (Int.toNat x2.2) ((0 : Int), ([] : List Int))).1 :: ([] : List Int)))) ≤ 140737488355328) (some (Sum.inl ((x2.1 ++ ((List.getD G (Int.toNat x2.2) ((0 : Int), ([] : List Int))).1 :: ([] : List Int))), (Go.IntKind.wrap .i64 (x2.2 + (1 : Int))))))))))
        else
          (some (Sum.inr x2.1))) (y, (0 : Int))) fun (y2 : (List Int)) =>
        some (y2, ())) T := by
      intro y hy hl T hT
      refine Ok.bind (S := fun z => (∀ x ∈ z, 0 ≤ x) ∧ z.length ≤ 300 ∧ (G = [] → z = y)) (Ok.loop G.length (fun i x => x.2 = (i : Int) ∧ (∀ v ∈ x.1, 0 ≤ v) ∧ x.1.length ≤ 257 + i ∧ (i = 0 → x.1 = y)) ⟨rfl, hy, hl, fun _ => rfl⟩ ?_) fun z hz => Ok.some (hT z hz.1 hz.2.1 hz.2.2)
      rintro i ⟨x1, x2⟩ hi ⟨hx, h1, h2, h3⟩
      simp only at hx h1 h2 h3
      subst hx
      refine Ok.cond (fun hc => ?_) (fun hc => Ok.inr ⟨h1, by show x1.length ≤ 300; omega, fun e => h3 (by subst e; simpa using hi)⟩)
      simp only [Int.toNat_natCast] at hc ⊢
      rw [wrap64 (n := (i : Int) + 1) (by omega) (by omega)]
      refine Ok.gd (by omega) (Ok.gd (by omega) (Ok.gd (by simp; omega) (Ok.gd (by simp; omega) (Ok.inl ⟨by omega, by simp, fun v hv => ?_, by simp; omega, fun e => by omega⟩))))
      rcases List.mem_append.1 hv with hv | hv
      · exact h1 v hv
      · simp only [List.mem_singleton] at hv
        rw [hv]; exact hp i (by omega)
    refine Ok.cond (fun q => ?_) (fun q => ?_)
    · simp only at q
      refine Ok.gd (by simp; omega) (Ok.gd (by simp; omega) ?_)
      refine rest _ (fun x hx => ?_) (by simp; omega) _ (fun z h1 h2 _ => ⟨h1, h2, fun h => by omega⟩)
      rcases List.mem_append.1 hx with hx | hx
      · exact hpos x hx
      · simp only [List.mem_singleton] at hx
        omega
    · exact rest _ hpos (by omega) _ (fun z h1 h2 h3 => ⟨h1, h2, fun _ hG => h3 hG⟩)

/-- What a table has that may be and has no logs. -/
structure Fine (P L K : Int) (D : List Int) (H : List Bool) : Prop where
  sh : shape P L K
  dl : (D.length : Int) = L
  hl : (H.length : Int) = P * L
  d1 : ∀ i, i < D.length → -1 ≤ D.getD i 0 ∧ D.getD i 0 < 256
  hd : ∀ p, p < H.length → H.getD p false = true → 0 ≤ D.getD (p / P.toNat) 0
  nd : (posi D).Nodup

theorem m23_ok (P L K : Int) (D : List Int) (H : List Bool) (S : Int × (Int × Int)) (G : List (Int × List Int)) :
    Ok (m23 ((P, (L, (K, (D, (H, (S, G)))))), ())) (fun r => r.1 = 0 → S.1 < 0 → G = [] → S = (-1, (0, 0)) ∧ Fine P L K D H) := by
  unfold m23
  refine Ok.bind (m43_shape P L K) fun y1 h1 => ?_
  refine Ok.ncond (fun _ => Ok.some (fun h => by simp at h)) (fun q1 => ?_)
  refine Ok.ncond (fun _ => Ok.some (fun h => by simp at h)) (fun q2 => ?_)
  refine Ok.ncond (fun _ => Ok.some (fun h => by simp at h)) (fun q3 => ?_)
  have hs := h1 q1
  have hm := shape_mul hs
  simp only at q2 q3 ⊢
  rw [wrap64 (by omega) (by omega)] at q3
  obtain ⟨p1, p2, p3, p4, p5, p6⟩ := hs
  obtain ⟨Q, rfl⟩ : ∃ Q : Nat, P = Q := ⟨P.toNat, by omega⟩
  refine Ok.bind (S := fun e => match e with | .inl _ => ∀ i, i < D.length → -1 ≤ D.getD i 0 | .inr v => v = 50) (Ok.loop D.length (fun i x => x = (i : Int) ∧ ∀ k, k < i → -1 ≤ D.getD k 0) ⟨rfl, fun k hk => by omega⟩ ?_) fun y2 hy2 => ?_
  · rintro i x hi ⟨rfl, hg⟩
    refine Ok.cond (fun hc => ?_) (fun hc => Ok.inr (fun k hk => hg k (by omega)))
    simp only [Int.toNat_natCast] at hc ⊢
    rw [wrap64 (n := (i : Int) + 1) (by omega) (by omega)]
    refine Ok.gd (by omega) (Ok.gd (by omega) ?_)
    refine Ok.cond (fun _ => Ok.inr rfl) (fun q => Ok.inl ⟨by omega, by omega, fun k hk => ?_⟩)
    by_cases e : k = i
    · subst e; omega
    · exact hg k (by omega)
  refine Ok.elim (fun v e => ?_) (fun v e => ?_)
  rotate_left
  · subst e
    simp only at hy2
    subst hy2
    exact Ok.some fun h => by simp at h
  subst e
  simp only at hy2
  have hdv : ∀ i : Nat, i < H.length → i / Q < D.length := fun i hi => by
    have : (H.length : Int) = L * Q := by omega
    have h2 : H.length = D.length * Q := by
      have : ((H.length : Nat) : Int) = ((D.length * Q : Nat) : Int) := by rw [this, Int.natCast_mul, q2]
      exact_mod_cast this
    exact Nat.div_lt_of_lt_mul (by rw [Nat.mul_comm]; omega)
  refine Ok.bind (S := fun e => match e with | .inl _ => ∀ p, p < H.length → H.getD p false = true → 0 ≤ D.getD (p / Q) 0 | .inr v => v = 50) (Ok.loop H.length (fun i x => x = (i : Int) ∧ ∀ p, p < i → H.getD p false = true → 0 ≤ D.getD (p / Q) 0) ⟨rfl, fun k hk => by omega⟩ ?_) fun y3 hy3 => ?_
  · rintro i x hi ⟨rfl, hg⟩
    refine Ok.cond (fun hc => ?_) (fun hc => Ok.inr (fun k hk => hg k (by omega)))
    simp only [Int.toNat_natCast] at hc ⊢
    have hi' : i < H.length := by omega
    have hdi := hdv i hi'
    obtain ⟨m, hmv⟩ : ∃ m, i / Q = m := ⟨_, rfl⟩
    have e1 : Int.tdiv (i : Int) (Q : Int) = (m : Int) := by rw [Int.tdiv_eq_ediv_of_nonneg (by omega), ← hmv]; rfl
    rw [hmv] at hdi
    rw [wrap64 (n := (i : Int) + 1) (by omega) (by omega), e1, wrap64 (n := (m : Int)) (by omega) (by omega)]
    simp only [Int.toNat_natCast]
    refine Ok.gd (by omega) (Ok.gd (by omega) ?_)
    refine Ok.condb (fun hh => ?_) (fun hh => Ok.inl ⟨by omega, by omega, fun k hk hv => ?_⟩)
    · refine Ok.ite (fun h => by omega) (fun _ => Ok.gd (by omega) (Ok.gd (by omega) ?_))
      refine Ok.cond (fun _ => Ok.inr rfl) (fun q => Ok.inl ⟨by omega, by omega, fun k hk hv => ?_⟩)
      by_cases e : k = i
      · subst e; rw [hmv]; omega
      · exact hg k (by omega) hv
    · by_cases e : k = i
      · subst e; rw [hh] at hv; simp at hv
      · exact hg k (by omega) hv
  refine Ok.elim (fun v e => ?_) (fun v e => ?_)
  rotate_left
  · subst e
    simp only at hy3
    subst hy3
    exact Ok.some fun h => by simp at h
  subst e
  simp only at hy3
  refine Ok.bind (m51_ok (Q, (L, (K, (D, (H, (S, G))))))) fun y6 h6 => ?_
  refine Ok.condb (fun _ => Ok.some (fun h => by simp at h)) (fun q6 => ?_)
  refine Ok.bind (m52_ok Q L K D H S G ⟨p1, p2, p3, p4, p5, p6⟩) fun y7 h7 => ?_
  refine Ok.condb (fun _ => Ok.some (fun h => by simp at h)) (fun q7 => ?_)
  have q6 : y6.1 = true := by simpa using q6
  have q7 : y7.1 = true := by simpa using q7
  obtain ⟨g1, g2⟩ := h7 q7
  refine Ok.gd (by omega) ?_
  refine Ok.bind (m53_ok Q L K D H S G (by omega) (by omega) g2) fun y8 h8 => ?_
  obtain ⟨l, ⟨⟩⟩ := y8
  obtain ⟨k1, k2, k3⟩ := h8
  simp only at k1 k2 k3 ⊢
  refine Ok.bind (S := fun e => match e with | .inl _ => l.Nodup ∧ ∀ x ∈ l, x < 256 | .inr v => v.1 = 50) (Ok.loop l.length (fun i x => x.1 = (i : Int) ∧ x.2.length = 256 ∧ (l.take i).Nodup ∧ (∀ v ∈ l.take i, v < 256) ∧ ∀ v : Nat, v < 256 → (x.2.getD v false = true ↔ (v : Int) ∈ l.take i)) ⟨rfl, by simp, by simp, by simp, fun v hv => ⟨fun h => by rw [List.getD_eq_getElem?_getD, List.getElem?_replicate] at h; split at h <;> simp at h, fun h => by simp at h⟩⟩ ?_) fun y9 hy9 => ?_
  · rintro i ⟨x1, x2⟩ hi ⟨hx, hl2, hn, hb, hv⟩
    simp only at hx hl2 hv
    subst hx
    refine Ok.cond (fun hc => ?_) (fun hc => Ok.inr ?_)
    · simp only [Int.toNat_natCast] at hc ⊢
      have hi' : i < l.length := by omega
      have hk := k1 (l.getD i 0) (by rw [List.getD_eq_getElem?_getD, List.getElem?_eq_getElem hi']; simp)
      rw [wrap64 (n := (i : Int) + 1) (by omega) (by omega), take_snoc l i hi' 0]
      obtain ⟨n, hzn⟩ : ∃ n : Nat, l.getD i 0 = n := ⟨(l.getD i 0).toNat, by omega⟩
      simp only [hzn, Int.toNat_natCast]
      refine Ok.gd (by omega) (Ok.gd (by omega) ?_)
      refine Ok.cond (fun _ => Ok.inr rfl) (fun q => ?_)
      refine Ok.gd (by omega) (Ok.gd (by omega) (Ok.gd (by omega) (Ok.gd (by omega) (Ok.gd (by omega) ?_))))
      refine Ok.condb (fun _ => Ok.inr rfl) (fun hf => ?_)
      refine Ok.gd (by omega) (Ok.gd (by omega) (Ok.gd (by omega) (Ok.gd (by omega) (Ok.gd (by omega) (Ok.inl ⟨by omega, by simp, by simp [hl2], ?_, ?_, ?_⟩)))))
      · have : (n : Int) ∉ l.take i := fun hm => by
          rw [(hv n (by omega)).2 hm] at hf; simp at hf
        rw [List.nodup_append]
        refine ⟨hn, by simp, fun a ha b hb' => ?_⟩
        simp only [List.mem_singleton] at hb'
        subst hb'
        exact fun e => this (e ▸ ha)
      · intro v hvm
        rcases List.mem_append.1 hvm with h | h
        · exact hb v h
        · simp only [List.mem_singleton] at h; omega
      · intro v hv2
        simp only [List.getD_eq_getElem?_getD, List.getElem?_set]
        by_cases e : n = v
        · subst e; rw [if_pos rfl, if_pos (by omega)]; simp
        · have := hv v hv2
          simp only [List.getD_eq_getElem?_getD] at this
          rw [if_neg e, this]
          simp only [List.mem_append, List.mem_singleton]
          constructor
          · exact .inl
          · rintro (h | h)
            · exact h
            · omega
    · simp only at hc
      rw [List.take_of_length_le (by omega)] at hn hb
      exact ⟨hn, hb⟩
  refine Ok.elim (fun v e => ?_) (fun v e => ?_)
  · subst e
    obtain ⟨j1, j2⟩ := hy9
    refine Ok.some fun _ hS hG => ?_
    have hl := k3 hS hG
    subst hl
    refine ⟨h6 q6 hS, ⟨p1, p2, p3, p4, p5, p6⟩, q2, by omega, fun i hi => ⟨hy2 i hi, ?_⟩, by simpa using hy3, j1⟩
    by_cases h0 : 0 ≤ D.getD i 0
    · refine j2 _ (List.mem_filter.2 ⟨?_, by simpa using h0⟩)
      rw [List.getD_eq_getElem?_getD, List.getElem?_eq_getElem hi]; simp
    · omega
  · subst e
    simp only at hy9
    exact Ok.some fun h => by simp only at h; omega
end Go.Proofs.Ytefekolpfklhdaa
end

section
/- Which blocks are settled, with no program in sight. -/
namespace Go.Proofs.Ytefekolpfklhdaa
open Go Go.Proofs.AM

def isPl (a : Int × Int) : Bool := decide (0 ≤ a.1 ∧ a.1 ≤ 255) && decide (0 ≤ a.2 ∧ a.2 ≤ 31)
theorem m50_eq (a : Int × Int) : m50 (a, ()) = some (isPl a, ()) := by
  unfold m50 isPl
  simp only [m48_eq, Option.bind_some]
  by_cases h : 0 ≤ a.1 ∧ a.1 ≤ 255 <;> simp [h]

/-- The page at a block's number. -/
abbrev at_ (u : List (Int × Int)) (p : Nat) : Int × Int := u.getD p (0, 0)

/-- A block of which all that is there stands in one block of the chip, each page at its number, and nothing else stands there. -/
structure Good (Q b : Nat) (u : List (Int × Int)) (ph : Int) : Prop where
  some : ∃ o, o < Q ∧ isPl (at_ u (b * Q + o)) = true
  all : ∀ o : Nat, o < Q → isPl (at_ u (b * Q + o)) = true → at_ u (b * Q + o) = (ph, (o : Int))
  alone : ∀ p, p < u.length → p / Q ≠ b → isPl (at_ u p) = true → (at_ u p).1 ≠ ph

theorem own_get {u : List (Int × Int)} {B Q o : Nat} (h : o < Q) : ((u.drop B).take Q).getD o (0, 0) = at_ u (B + o) := by
  simp only [at_, List.getD_eq_getElem?_getD, List.getElem?_take, if_pos h, List.getElem?_drop]

theorem own_len {u : List (Int × Int)} {B Q : Nat} (h : B + Q ≤ u.length) : ((u.drop B).take Q).length = Q := by simp; omega

theorem m32_ok (Q N b : Nat) (u : List (Int × Int)) (hQ : 4 ≤ Q ∧ Q ≤ 32) (hN : N ≤ 256) (hb : b < N) (hu : u.length = N * Q) :
    Ok (m32 ((Q : Int), (u, ((b : Int), ())))) (fun r => (r.2.1 = true → Good Q b u r.1) ∧ (r.2.1 = false → ∀ ph, ¬ Good Q b u ph)) := by
  obtain ⟨B, hB⟩ : ∃ B, b * Q = B := ⟨_, rfl⟩
  have hBN : B + Q ≤ u.length := by
    have : (b + 1) * Q ≤ N * Q := Nat.mul_le_mul_right Q hb
    rw [Nat.add_mul, hB] at this; omega
  have hlen : u.length ≤ 8192 := by
    have : N * Q ≤ 256 * 32 := Nat.mul_le_mul hN hQ.2
    omega
  have w0 : (b : Int) * (Q : Int) = (B : Int) := by rw [← hB]; simp
  have w0' : ((b : Int) + 1) * (Q : Int) = ((B + Q : Nat) : Int) := by rw [Int.add_mul, w0]; simp
  have w1 : IntKind.wrap .i64 ((b : Int) * (Q : Int)) = (B : Int) := by rw [w0, wrap64 (by omega) (by omega)]
  have w2 : IntKind.wrap .i64 (IntKind.wrap .i64 ((b : Int) + 1) * (Q : Int)) = ((B + Q : Nat) : Int) := by rw [wrap64 (n := (b : Int) + 1) (by omega) (by omega), w0', wrap64 (by omega) (by omega)]
  have hmod : Int.tmod (((List.length u) : Nat) : Int) (Q : Int) = 0 := by rw [hu]; simp
  have hdiv : Int.tdiv (((List.length u) : Nat) : Int) (Q : Int) = (N : Int) := by
    rw [hu, Int.natCast_mul, Int.mul_tdiv_cancel _ (by omega)]
  have hol : ((u.drop B).take Q).length = Q := own_len hBN
  unfold m32
  refine Ok.bind (Ok.of (m48_eq _ _ _) rfl) fun y1 h1 => ?_
  subst h1
  simp only [w1, w2, hmod, hdiv, Int.toNat_natCast, Nat.add_sub_cancel_left, hol]
  refine Ok.condb (fun h => ?_) (fun _ => ?_)
  · simp at h; omega
  refine Ok.ite (fun h => by omega) (fun _ => ?_)
  refine Ok.ncond (fun h => absurd trivial h) (fun _ => ?_)
  refine Ok.ite (fun h => by omega) (fun _ => ?_)
  refine Ok.bind (Ok.of (m48_eq _ _ _) rfl) fun y2 h2 => ?_
  subst h2
  rw [wrap64 (n := (N : Int)) (by omega) (by omega), wrap64 (n := (N : Int) - 1) (by omega) (by omega)]
  refine Ok.condb (fun h => ?_) (fun _ => ?_)
  · simp at h; omega
  refine Ok.gd (by omega) (Ok.gd (by omega) (Ok.gd (by omega) ?_))
  -- the block's own pages
  refine Ok.bind (S := fun e => match e with
      | .inl v => (v.2 = true ↔ ∃ o, o < Q ∧ isPl (at_ u (B + o)) = true) ∧ ∀ o : Nat, o < Q → isPl (at_ u (B + o)) = true → at_ u (B + o) = (v.1, (o : Int))
      | .inr v => v.2 = false ∧ ∀ ph, ¬ Good Q b u ph)
    (Ok.loop Q (fun i x => x.2.2 = (i : Int) ∧ (x.2.1 = true ↔ ∃ o, o < i ∧ isPl (at_ u (B + o)) = true) ∧ ∀ o : Nat, o < i → isPl (at_ u (B + o)) = true → at_ u (B + o) = (x.1, (o : Int))) ⟨rfl, by simp, fun o ho => by omega⟩ ?_) fun y3 hy3 => ?_
  · rintro i ⟨x1, x2, x3⟩ hi ⟨hx, hs, ha⟩
    simp only at hx hs ha
    subst hx
    refine Ok.cond (fun hc => ?_) (fun hc => Ok.inr ?_)
    · have hi' : i < Q := by simp only at hc; omega
      simp only [Int.toNat_natCast, own_get hi', m50_eq, wrap64 (n := (i : Int) + 1) (by omega) (by omega)]
      refine Ok.gd (by omega) (Ok.gd (by omega) ?_)
      refine Ok.bind (Ok.of rfl rfl) fun y4 h4 => ?_
      subst h4
      have step : isPl (at_ u (B + i)) = true → at_ u (B + i) = ((at_ u (B + i)).1, (i : Int)) → (x2 = true → (at_ u (B + i)).1 = x1) → Ok (some (Sum.inl ((at_ u (B + i)).1, (true, ((i : Int) + 1))))) (fun s : (Int × (Bool × Int)) ⊕ ((Int × Bool) ⊕ (Int × Bool)) => s.elim (fun y => i < Q ∧ (y.2.2 = ((i + 1 : Nat) : Int) ∧ (y.2.1 = true ↔ ∃ o, o < i + 1 ∧ isPl (at_ u (B + o)) = true) ∧ ∀ o : Nat, o < i + 1 → isPl (at_ u (B + o)) = true → at_ u (B + o) = (y.1, (o : Int)))) (fun e => match e with
          | .inl v => (v.2 = true ↔ ∃ o, o < Q ∧ isPl (at_ u (B + o)) = true) ∧ ∀ o : Nat, o < Q → isPl (at_ u (B + o)) = true → at_ u (B + o) = (v.1, (o : Int))
          | .inr v => v.2 = false ∧ ∀ ph, ¬ Good Q b u ph)) := by
        intro hp he hsame
        refine Ok.inl ⟨hi', by simp, ⟨fun _ => ⟨i, by omega, hp⟩, fun _ => rfl⟩, fun o ho hpo => ?_⟩
        by_cases e : o = i
        · subst e; exact he
        · have h1 := hs.2 ⟨o, by omega, hpo⟩
          rw [ha o (by omega) hpo, hsame h1]
      refine Ok.condb (fun hp => ?_) (fun hp => ?_)
      · have hp : isPl (at_ u (B + i)) = false := by simpa using hp
        refine Ok.inl ⟨hi', by simp, ?_, fun o ho hpo => ?_⟩
        · simp only
          rw [hs]
          constructor
          · rintro ⟨o, h1, h2⟩; exact ⟨o, by omega, h2⟩
          · rintro ⟨o, h1, h2⟩
            by_cases e : o = i
            · subst e; rw [hp] at h2; simp at h2
            · exact ⟨o, by omega, h2⟩
        · by_cases e : o = i
          · subst e; rw [hp] at hpo; simp at hpo
          · exact ha o (by omega) hpo
      · have hp : isPl (at_ u (B + i)) = true := by simpa using hp
        have bad : (at_ u (B + i)).2 ≠ (i : Int) → ∀ ph, ¬ Good Q b u ph := fun h ph hg => by
          have := hg.all i hi' (by rw [hB]; exact hp)
          rw [hB] at this
          exact h (by rw [this])
        refine Ok.condb (fun hx2 => ?_) (fun hx2 => ?_)
        · refine Ok.condb (fun hne => Ok.inr ⟨rfl, fun ph hg => ?_⟩) (fun heq => ?_)
          · obtain ⟨o, ho, hpo⟩ := hs.1 hx2
            have h1 := ha o ho hpo
            have h2 := hg.all o (by omega) (by rw [hB]; exact hpo)
            have h3 := hg.all i hi' (by rw [hB]; exact hp)
            rw [hB] at h2 h3
            rw [h1] at h2
            have e1 : x1 = ph := congrArg Prod.fst h2
            rw [h3] at hne
            simp [e1] at hne
          · have heq : (at_ u (B + i)).1 = x1 ∧ (at_ u (B + i)).2 = (i : Int) := by simpa [at_] using heq
            refine Ok.ncond (fun h => absurd heq.2 h) (fun _ => ?_)
            exact step hp (by rw [← heq.2]) (fun _ => heq.1)
        · refine Ok.ncond (fun h => Ok.inr ⟨rfl, bad h⟩) (fun h => ?_)
          exact step hp (by rw [← h]) (fun h' => by rw [hx2] at h'; simp at h')
    · have e : i = Q := by simp only at hc; omega
      subst e
      exact ⟨hs, ha⟩
  refine Ok.elim (fun v e => ?_) (fun v e => ?_)
  rotate_left
  · subst e
    exact Ok.some ⟨fun h => by rw [hy3.1] at h; simp at h, fun _ => hy3.2⟩
  subst e
  obtain ⟨hs, ha⟩ := hy3
  refine Ok.condb (fun h => Ok.some ⟨fun h' => by simp at h', fun _ ph hg => ?_⟩) (fun h => ?_)
  · have hv : v.2 = false := by simpa using h
    obtain ⟨o, ho, hpo⟩ := hg.some
    rw [hB] at hpo
    have := hs.2 ⟨o, ho, hpo⟩
    rw [hv] at this; simp at this
  have hv : v.2 = true := by simpa using h
  have huniq : ∀ ph, Good Q b u ph → ph = v.1 := fun ph hg => by
    obtain ⟨o, ho, hpo⟩ := hs.1 hv
    have h1 := ha o ho hpo
    have h2 := hg.all o ho (by rw [hB]; exact hpo)
    rw [hB, h1] at h2
    exact (congrArg Prod.fst h2).symm
  refine Ok.bind (S := fun e => match e with
      | .inl _ => ∀ p, p < u.length → p / Q ≠ b → isPl (at_ u p) = true → (at_ u p).1 ≠ v.1
      | .inr v => v.2 = false ∧ ∀ ph, ¬ Good Q b u ph)
    (Ok.loop u.length (fun i x => x = (i : Int) ∧ ∀ p, p < i → p / Q ≠ b → isPl (at_ u p) = true → (at_ u p).1 ≠ v.1) ⟨rfl, fun o ho => by omega⟩ ?_) fun y5 hy5 => ?_
  · rintro i x hi ⟨rfl, hg⟩
    refine Ok.cond (fun hc => ?_) (fun hc => Ok.inr (fun p hp => hg p (by omega)))
    simp only [Int.toNat_natCast] at hc ⊢
    obtain ⟨m, hmv⟩ : ∃ m, i / Q = m := ⟨_, rfl⟩
    have hmi : m ≤ i := by rw [← hmv]; exact Nat.div_le_self _ _
    have e1 : Int.tdiv (i : Int) (Q : Int) = (m : Int) := by rw [Int.tdiv_eq_ediv_of_nonneg (by omega), ← hmv]; rfl
    simp only [wrap64 (n := (i : Int) + 1) (by omega) (by omega), e1, wrap64 (n := (m : Int)) (by omega) (by omega), m50_eq]
    have next : (m ≠ b → isPl (at_ u i) = true → (at_ u i).1 ≠ v.1) → Ok (some (Sum.inl ((i : Int) + 1))) (fun s : Int ⊕ (Unit ⊕ (Int × Bool)) => s.elim (fun y => i < u.length ∧ (y = ((i + 1 : Nat) : Int) ∧ ∀ p, p < i + 1 → p / Q ≠ b → isPl (at_ u p) = true → (at_ u p).1 ≠ v.1)) (fun e => match e with
      | .inl _ => ∀ p, p < u.length → p / Q ≠ b → isPl (at_ u p) = true → (at_ u p).1 ≠ v.1
      | .inr v => v.2 = false ∧ ∀ ph, ¬ Good Q b u ph)) := fun h => by
      refine Ok.inl ⟨by omega, by omega, fun p hp h1 h2 => ?_⟩
      by_cases e : p = i
      · subst e; exact h (by rw [← hmv]; exact h1) h2
      · exact hg p (by omega) h1 h2
    refine Ok.gd (by omega) (Ok.gd (by omega) (Ok.ite (fun h => by omega) fun _ => ?_))
    refine Ok.ncond (fun hne => ?_) (fun he => next (fun h => absurd (by omega) h))
    refine Ok.bind (Ok.of rfl rfl) fun y6 h6 => ?_
    subst h6
    refine Ok.condb (fun hp => ?_) (fun hp => next (fun _ h => by simp only at hp; rw [hp] at h; simp at h))
    refine Ok.cond (fun hq => Ok.inr ⟨rfl, fun ph hgd => ?_⟩) (fun hq => next (fun _ _ => hq))
    have := huniq ph hgd
    subst this
    exact hgd.alone i (by omega) (by rw [hmv]; omega) hp hq
  refine Ok.elim (fun w e => ?_) (fun w e => ?_)
  · subst e
    refine Ok.some ⟨fun _ => ⟨?_, fun o ho hp => ?_, hy5⟩, fun h => by simp at h⟩
    · obtain ⟨o, ho, hpo⟩ := hs.1 hv
      exact ⟨o, ho, by rw [hB]; exact hpo⟩
    · rw [hB] at hp ⊢; exact ha o ho hp
  · subst e
    exact Ok.some ⟨fun h => by rw [hy5.1] at h; simp at h, fun _ => hy5.2⟩
end Go.Proofs.Ytefekolpfklhdaa
end

section
/- The table of places, with no program in sight. -/
namespace Go.Proofs.Ytefekolpfklhdaa
open Go Go.Proofs.AM

theorem getD_set {A : Type} (l : List A) (i j : Nat) (x z : A) (h : i < l.length) : (l.set i x).getD j z = if i = j then x else l.getD j z := by
  simp only [List.getD_eq_getElem?_getD, List.getElem?_set]
  by_cases e : i = j
  · subst e; simp [h]
  · simp [e]

theorem getD_rep {A : Type} (n j : Nat) (x : A) : (List.replicate n x).getD j x = x := by
  rw [List.getD_eq_getElem?_getD, List.getElem?_replicate]
  split <;> rfl

theorem m38_shape {Q N : Nat} {K : Int} (h : shape Q N K) : m38 ((Q : Int), ((N : Int), (K, ()))) = some (((Q : Int), ((N : Int), (K, (List.replicate N (-1 : Int), (List.replicate (N * Q) false, ((-1, (0, 0)), [])))))), (0, ())) := by
  have hm := shape_mul h
  obtain ⟨h1, h2, h3, h4, h5, h6⟩ := h
  have e : (N : Int) * (Q : Int) = ((N * Q : Nat) : Int) := by simp
  unfold m38
  simp only [Bool.cond_eq_ite, decide_eq_true_eq]
  rw [if_neg (by omega), if_neg (by omega), if_neg (by omega), if_neg (by omega), if_neg (by omega), if_neg (by omega), m66_eq _ _ (by omega) (by omega), wrap64 (n := (N : Int) * Q) (by omega) (by omega)]
  simp only [Option.bind_some]
  rw [gd_pos (by omega), gd_pos (by omega), gd_pos (by omega), e]
  simp only [Int.toNat_natCast]

def TabAt (Q : Nat) (u : List (Int × Int)) (loose D : List Int) (H : List Bool) (b : Nat) : Prop :=
  (∃ ph, Good Q b u ph ∧ D.getD b (-1) = ph ∧ (b : Int) ∉ loose ∧ ∀ o, o < Q → H.getD (b * Q + o) false = isPl (at_ u (b * Q + o))) ∨
  ((∀ ph, ¬ Good Q b u ph) ∧ D.getD b (-1) = -1 ∧ (∀ o, o < Q → H.getD (b * Q + o) false = false) ∧ ((b : Int) ∈ loose ↔ ∃ o, o < Q ∧ isPl (at_ u (b * Q + o)) = true))

theorem TabAt.same {Q : Nat} {u : List (Int × Int)} {loose loose' D D' : List Int} {H H' : List Bool} {b : Nat} (h : TabAt Q u loose D H b) (h1 : D'.getD b (-1) = D.getD b (-1)) (h2 : (b : Int) ∈ loose' ↔ (b : Int) ∈ loose)
    (h3 : ∀ o, o < Q → H'.getD (b * Q + o) false = H.getD (b * Q + o) false) : TabAt Q u loose' D' H' b := by
  rcases h with ⟨ph, a1, a2, a3, a4⟩ | ⟨a1, a2, a3, a4⟩
  · exact .inl ⟨ph, a1, h1.trans a2, fun h => a3 (h2.1 h), fun o ho => (h3 o ho).trans (a4 o ho)⟩
  · exact .inr ⟨a1, h1.trans a2, fun o ho => (h3 o ho).trans (a3 o ho), h2.trans a4⟩

theorem m25_ok (Q N : Nat) (K : Int) (u : List (Int × Int)) (hs : shape Q N K) (hu : u.length = N * Q) :
    Ok (m25 ((Q : Int), ((N : Int), (K, (u, ()))))) (fun r => ∃ (D : List Int) (H : List Bool) (loose : List Int), r = (((Q : Int), ((N : Int), (K, (D, (H, ((-1, (0, 0)), [])))))), (loose, (0, ()))) ∧ D.length = N ∧ H.length = N * Q ∧ loose.length ≤ N ∧ (∀ x : Int, x ∈ loose → 0 ≤ x ∧ x < N) ∧ ∀ b, b < N → TabAt Q u loose D H b) := by
  have hm := shape_mul hs
  obtain ⟨p1, p2, p3, p4, p5, p6⟩ := hs
  have hNQ : ((N * Q : Nat) : Int) = (N : Int) * (Q : Int) := by simp
  have hlen : N * Q ≤ 8192 := by omega
  unfold m25
  simp only [m38_shape ⟨p1, p2, p3, p4, p5, p6⟩, Option.bind_some]
  refine Ok.ncond (fun h => absurd trivial h) (fun _ => ?_)
  rw [wrap64 (n := (N : Int) * Q) (by omega) (by omega)]
  refine Ok.ncond (fun h => absurd (by rw [hu]; omega) h) (fun _ => ?_)
  refine Ok.bind (S := fun y => y.2.1.length = N ∧ y.2.2.length = N * Q ∧ y.1.length ≤ N ∧ (∀ x : Int, x ∈ y.1 → 0 ≤ x ∧ x < N) ∧ ∀ b, b < N → TabAt Q u y.1 y.2.1 y.2.2 b)
    (Ok.loop N (fun i x => x.2.1 = (i : Int) ∧ x.2.2.1.length = N ∧ x.2.2.2.length = N * Q ∧ x.1.length ≤ i ∧ (∀ v ∈ x.1, 0 ≤ v ∧ v < (i : Int)) ∧ (∀ b, b < i → TabAt Q u x.1 x.2.2.1 x.2.2.2 b) ∧ (∀ b, i ≤ b → x.2.2.1.getD b (-1) = -1) ∧ ∀ p, i * Q ≤ p → x.2.2.2.getD p false = false)
      ⟨rfl, by simp, by simp, by simp, by simp, fun b hb => by omega, fun b _ => getD_rep _ _ _, fun p _ => getD_rep _ _ _⟩ ?_) fun y hy => ?_
  · rintro i ⟨loose, x2, D, H⟩ hi ⟨hx, hD, hH, hl, hlo, hT, hD1, hH1⟩
    simp only at hx hD hH hl hlo hT hD1 hH1
    subst hx
    refine Ok.cond (fun hc => ?_) (fun hc => Ok.inr ?_)
    rotate_left
    · have e : i = N := by simp only at hc; omega
      subst e
      exact ⟨hD, hH, hl, hlo, hT⟩
    have hi' : i < N := by simp only at hc; omega
    obtain ⟨B, hB⟩ : ∃ B, i * Q = B := ⟨_, rfl⟩
    have hBN : B + Q ≤ u.length := by
      have : (i + 1) * Q ≤ N * Q := Nat.mul_le_mul_right Q hi'
      rw [Nat.add_mul, hB] at this; omega
    have below : ∀ b, b < i → ∀ o, o < Q → b * Q + o < B := fun b hb o ho => by
      have : (b + 1) * Q ≤ i * Q := Nat.mul_le_mul_right Q hb
      rw [Nat.add_mul, hB] at this; omega
    have w0 : (i : Int) * (Q : Int) = (B : Int) := by rw [← hB]; simp
    have w0' : ((i : Int) + 1) * (Q : Int) = ((B + Q : Nat) : Int) := by rw [Int.add_mul, w0]; simp
    have w1 : IntKind.wrap .i64 ((i : Int) * (Q : Int)) = (B : Int) := by rw [w0, wrap64 (by omega) (by omega)]
    have w2 : IntKind.wrap .i64 (IntKind.wrap .i64 ((i : Int) + 1) * (Q : Int)) = ((B + Q : Nat) : Int) := by rw [wrap64 (n := (i : Int) + 1) (by omega) (by omega), w0', wrap64 (by omega) (by omega)]
    have w3 : IntKind.wrap .i64 ((i : Int) + 1) = (i : Int) + 1 := wrap64 (by omega) (by omega)
    have w2' : IntKind.wrap .i64 (((i : Int) + 1) * (Q : Int)) = ((B + Q : Nat) : Int) := by rw [w0', wrap64 (by omega) (by omega)]
    have hol : ((u.drop B).take Q).length = Q := own_len hBN
    simp only [w1, w3, w2', Int.toNat_natCast, Nat.add_sub_cancel_left, hol]
    refine Ok.gd (by omega) (Ok.gd (by omega) (Ok.gd (by omega) ?_))
    refine Ok.bind (m32_ok Q N i u (by omega) (by omega) hi' hu) fun y3 h3 => ?_
    obtain ⟨h31, h32⟩ := h3
    rw [hB] at hH1
    refine Ok.condb (fun hb => ?_) (fun hb => ?_)
    · have hg := h31 hb
      refine Ok.gd (by omega) (Ok.gd (by omega) (Ok.gd (by omega) ?_))
      refine Ok.bind (S := fun H' => H'.length = N * Q ∧ (∀ p, (p < B ∨ B + Q ≤ p) → H'.getD p false = H.getD p false) ∧ ∀ o, o < Q → H'.getD (B + o) false = isPl (at_ u (B + o)))
        (Ok.loop Q (fun j x => x.1 = (j : Int) ∧ x.2.length = N * Q ∧ (∀ p, (p < B ∨ B + j ≤ p) → x.2.getD p false = H.getD p false) ∧ ∀ o, o < j → x.2.getD (B + o) false = isPl (at_ u (B + o))) ⟨rfl, hH, fun _ _ => rfl, fun o ho => by omega⟩ ?_) fun H' hH' => ?_
      · rintro j ⟨x1, H2⟩ hj ⟨hx, g1, g2, g3⟩
        simp only at hx g1 g2 g3
        subst hx
        refine Ok.cond (fun hc => ?_) (fun hc => Ok.inr ?_)
        · have hj' : j < Q := by simp only at hc; omega
          have w4 : IntKind.wrap .i64 ((B : Int) + (j : Int)) = ((B + j : Nat) : Int) := by rw [wrap64 (by omega) (by omega)]; simp
          simp only [Int.toNat_natCast, own_get hj', m50_eq, wrap64 (n := (j : Int) + 1) (by omega) (by omega), w4]
          refine Ok.gd (by omega) (Ok.gd (by omega) ?_)
          refine Ok.bind (Ok.of rfl rfl) fun y5 h5 => ?_
          subst h5
          refine Ok.gd (by omega) (Ok.gd (by omega) (Ok.gd (by omega) (Ok.inl ⟨hj', by simp, by simp [g1], fun p hp => ?_, fun o ho => ?_⟩)))
          · simp only
            rw [getD_set _ _ _ _ _ (by omega), if_neg (by omega)]
            exact g2 p (by omega)
          · simp only
            rw [getD_set _ _ _ _ _ (by omega)]
            by_cases e : o = j
            · subst e; rw [if_pos rfl]
            · rw [if_neg (by omega)]; exact g3 o (by omega)
        · have e : j = Q := by simp only at hc; omega
          subst e
          exact ⟨g1, g2, g3⟩
      · obtain ⟨g1, g2, g3⟩ := hH'
        refine Ok.inl ⟨hi', by simp, by simp [hD], g1, by simp only; omega, fun v hv => ?_, fun b hb' => ?_, fun b hb' => ?_, fun p hp => ?_⟩
        · have := hlo v hv; omega
        · by_cases e : b = i
          · subst e
            left
            refine ⟨_, hg, ?_, fun hv => ?_, fun o ho => ?_⟩
            · simp only; rw [getD_set _ _ _ _ _ (by omega), if_pos rfl]
            · have := hlo _ hv; omega
            · simp only; rw [hB]; exact g3 o ho
          · refine (hT b (by omega)).same ?_ Iff.rfl (fun o ho => ?_)
            · simp only; rw [getD_set _ _ _ _ _ (by omega), if_neg (by omega)]
            · simp only; exact g2 _ (.inl (below b (by omega) o ho))
        · simp only; rw [getD_set _ _ _ _ _ (by omega), if_neg (by omega)]; exact hD1 b (by omega)
        · have hp' : B + Q ≤ p := by rw [Nat.add_mul, hB] at hp; omega
          simp only; rw [g2 p (.inr hp')]; exact hH1 p (by omega)
    · have hng := h32 hb
      have hHo : ∀ o, o < Q → H.getD (i * Q + o) false = false := fun o _ => hH1 _ (by omega)
      have fin : ∀ loose' : List Int, loose'.length ≤ i + 1 → (∀ v ∈ loose', 0 ≤ v ∧ v < ((i + 1 : Nat) : Int)) → (∀ b, b < i → ((b : Int) ∈ loose' ↔ (b : Int) ∈ loose)) → ((i : Int) ∈ loose' ↔ ∃ o, o < Q ∧ isPl (at_ u (i * Q + o)) = true) →
          Ok (some (Sum.inl (loose', ((i : Int) + 1, (D, H))))) (fun s : ((List Int) × (Int × ((List Int) × (List Bool)))) ⊕ ((List Int) × ((List Int) × (List Bool))) => s.elim (fun x => i < N ∧ (x.2.1 = ((i + 1 : Nat) : Int) ∧ x.2.2.1.length = N ∧ x.2.2.2.length = N * Q ∧ x.1.length ≤ i + 1 ∧ (∀ v ∈ x.1, 0 ≤ v ∧ v < ((i + 1 : Nat) : Int)) ∧ (∀ b, b < i + 1 → TabAt Q u x.1 x.2.2.1 x.2.2.2 b) ∧ (∀ b, i + 1 ≤ b → x.2.2.1.getD b (-1) = -1) ∧ ∀ p, (i + 1) * Q ≤ p → x.2.2.2.getD p false = false))
            (fun y => y.2.1.length = N ∧ y.2.2.length = N * Q ∧ y.1.length ≤ N ∧ (∀ x : Int, x ∈ y.1 → 0 ≤ x ∧ x < N) ∧ ∀ b, b < N → TabAt Q u y.1 y.2.1 y.2.2 b)) := by
        intro loose' c1 c2 c3 c4
        refine Ok.inl ⟨hi', by simp, hD, hH, c1, c2, fun b hb' => ?_, fun b hb' => hD1 b (by omega), fun p hp => hH1 p (by rw [Nat.add_mul, hB] at hp; omega)⟩
        by_cases e : b = i
        · subst e
          exact .inr ⟨hng, hD1 b (Nat.le_refl _), hHo, c4⟩
        · exact (hT b (by omega)).same rfl (c3 b (by omega)) (fun _ _ => rfl)
      refine Ok.bind (S := fun e => match e with
          | .inl _ => ∀ o, o < Q → isPl (at_ u (B + o)) = false
          | .inr v => 0 ≤ v ∧ ∃ o, o < Q ∧ isPl (at_ u (B + o)) = true)
        (Ok.loop Q (fun j x => x = (j : Int) ∧ ∀ o, o < j → isPl (at_ u (B + o)) = false) ⟨rfl, fun o ho => by omega⟩ ?_) fun y4 hy4 => ?_
      · rintro j x hj ⟨rfl, g1⟩
        refine Ok.cond (fun hc => ?_) (fun hc => Ok.inr (fun o ho => g1 o (by omega)))
        have hj' : j < Q := by omega
        simp only [Int.toNat_natCast, own_get hj', m50_eq, wrap64 (n := (j : Int) + 1) (by omega) (by omega)]
        refine Ok.gd (by omega) (Ok.gd (by omega) ?_)
        refine Ok.bind (Ok.of rfl rfl) fun y5 h5 => ?_
        subst h5
        refine Ok.condb (fun hp => Ok.inr ⟨by omega, j, hj', hp⟩) (fun hp => Ok.inl ⟨hj', by omega, fun o ho => ?_⟩)
        by_cases e : o = j
        · subst e; exact hp
        · exact g1 o (by omega)
      · refine Ok.elim (fun v e => ?_) (fun v e => ?_)
        · subst e
          refine Ok.cond (fun h => by omega) (fun _ => fin loose (by omega) (fun v hv => by have := hlo v hv; omega) (fun _ _ => Iff.rfl) ?_)
          constructor
          · intro hv; have := hlo _ hv; omega
          · rintro ⟨o, ho, hp⟩
            rw [hB, hy4 o ho] at hp; simp at hp
        · subst e
          refine Ok.cond (fun _ => ?_) (fun h => absurd hy4.1 h)
          refine Ok.gd (by simp; omega) (Ok.gd (by simp; omega) (fin _ (by simp; omega) (fun v hv => ?_) (fun b hb' => ?_) ?_))
          · rcases List.mem_append.1 hv with hv | hv
            · have := hlo v hv; omega
            · simp only [List.mem_singleton] at hv; omega
          · simp only [List.mem_append, List.mem_singleton]
            constructor
            · rintro (h | h)
              · exact h
              · omega
            · exact .inl
          · simp only [List.mem_append, List.mem_singleton, or_true, true_iff]
            rw [hB]; exact hy4.2
  · obtain ⟨loose, D, H⟩ := y
    obtain ⟨a1, a2, a3, a4, a5⟩ := hy
    exact Ok.some ⟨D, H, loose, rfl, a1, a2, a3, a4, a5⟩
end Go.Proofs.Ytefekolpfklhdaa
end

section
/- A table that may be is found to be one. -/
namespace Go.Proofs.Ytefekolpfklhdaa
open Go Go.Proofs.AM

theorem posi_nodup {D : List Int} (h : ∀ i j, i < j → j < D.length → 0 ≤ D.getD i 0 → D.getD i 0 = D.getD j 0 → False) : (posi D).Nodup := by
  unfold posi List.Nodup
  rw [List.pairwise_filter, List.pairwise_iff_getElem]
  intro i j hi hj hij h1 h2 e
  refine h i j hij hj ?_ ?_
  · rw [List.getD_eq_getElem?_getD, List.getElem?_eq_getElem hi]; simpa using h1
  · rw [List.getD_eq_getElem?_getD, List.getD_eq_getElem?_getD, List.getElem?_eq_getElem hi, List.getElem?_eq_getElem hj]; simpa using e

theorem posi_inj {D : List Int} (h : (posi D).Nodup) : ∀ i j, i < j → j < D.length → 0 ≤ D.getD i 0 → D.getD i 0 = D.getD j 0 → False := by
  unfold posi List.Nodup at h
  rw [List.pairwise_filter, List.pairwise_iff_getElem] at h
  intro i j hij hj h0 he
  have e1 : D.getD i 0 = D[i] := by rw [List.getD_eq_getElem?_getD, List.getElem?_eq_getElem (by omega : i < D.length)]; rfl
  have e2 : D.getD j 0 = D[j] := by rw [List.getD_eq_getElem?_getD, List.getElem?_eq_getElem hj]; rfl
  rw [e1] at h0 he
  rw [e2] at he
  exact h i j (by omega) hj hij (by simpa using h0) (by rw [← he]; simpa using h0) he

theorem m43_fine {P L K : Int} (hs : shape P L K) : Ok (m43 (P, (L, (K, ())))) (fun r => r.2.1 = 0) := by
  have hm := shape_mul hs
  obtain ⟨s1, s2, s3, s4, s5, s6⟩ := hs
  unfold m43
  refine Ok.cond (fun h => by simp only at h; omega) (fun _ => ?_)
  refine Ok.cond (fun h => by simp only at h; omega) (fun _ => ?_)
  refine Ok.cond (fun h => by simp only at h; omega) (fun _ => ?_)
  refine Ok.cond (fun h => by simp only at h; omega) (fun _ => ?_)
  refine Ok.cond (fun h => by simp only at h; omega) (fun _ => ?_)
  refine Ok.cond (fun h => by simp only at h; omega) (fun _ => ?_)
  obtain ⟨N, rfl⟩ : ∃ N : Nat, L = N := ⟨L.toNat, by omega⟩
  refine Ok.bind (S := fun _ => True) (Ok.loop N (fun i x => x.1 = (i : Int) ∧ x.2.2.2.2.1.length = i) ⟨rfl, rfl⟩ ?_) fun y _ => ?_
  · rintro i ⟨x1, x2, x3, x4, x5, x6⟩ hi ⟨hx, hl⟩
    simp only at hx hl
    subst hx
    refine Ok.cond (fun hc => ?_) (fun _ => Ok.inr trivial)
    simp only at hc
    refine Ok.gd (by simp; omega) (Ok.gd (by simp; omega) (Ok.inl ⟨by omega, ?_, ?_⟩))
    · simp only; rw [wrap64 (by omega) (by omega)]; simp
    · simp [hl]
  · simp only
    rw [wrap64 (by omega) (by omega)]
    exact Ok.gd (by omega) (Ok.gd (by omega) (Ok.gd (by omega) (Ok.some rfl)))

section
variable {Q N : Nat} {K : Int} {D : List Int} {H : List Bool}

theorem fine_div (hf : Fine Q N K D H) {i : Nat} (hi : i < H.length) : i / Q < D.length := by
  have h1 := hf.dl
  have h2 := hf.hl
  have hNQ : ((N * Q : Nat) : Int) = (Q : Int) * (N : Int) := by rw [Int.natCast_mul, Int.mul_comm]
  have : D.length = N := by omega
  rw [this]
  exact Nat.div_lt_of_lt_mul (by rw [Nat.mul_comm]; omega)

theorem m23_fine (hf : Fine Q N K D H) : Ok (m23 (((Q : Int), ((N : Int), (K, (D, (H, ((-1, (0, 0)), [])))))), ())) (fun r => r.1 = 0) := by
  have hm := shape_mul hf.sh
  obtain ⟨s1, s2, s3, s4, s5, s6⟩ := hf.sh
  have hdl := hf.dl
  have hhl := hf.hl
  unfold m23
  refine Ok.bind (m43_fine hf.sh) fun y1 h1 => ?_
  refine Ok.ncond (fun h => absurd h1 h) (fun _ => ?_)
  refine Ok.ncond (fun h => absurd hdl h) (fun _ => ?_)
  simp only
  rw [wrap64 (by omega) (by omega)]
  refine Ok.ncond (fun h => absurd (by omega) h) (fun _ => ?_)
  refine Ok.bind (S := fun e => e = Sum.inl ()) (Ok.loop D.length (fun i x => x = (i : Int)) rfl ?_) fun y2 hy2 => ?_
  · rintro i x hi rfl
    refine Ok.cond (fun hc => ?_) (fun hc => Ok.inr rfl)
    have := hf.d1 i (by omega)
    simp only [Int.toNat_natCast] at hc ⊢
    rw [wrap64 (n := (i : Int) + 1) (by omega) (by omega)]
    refine Ok.gd (by omega) (Ok.gd (by omega) ?_)
    exact Ok.cond (fun h => by omega) (fun q => Ok.inl ⟨by omega, by omega⟩)
  subst hy2
  simp only [Sum.elim_inl]
  refine Ok.bind (S := fun e => e = Sum.inl ()) (Ok.loop H.length (fun i x => x = (i : Int)) rfl ?_) fun y3 hy3 => ?_
  · rintro i x hi rfl
    refine Ok.cond (fun hc => ?_) (fun hc => Ok.inr rfl)
    have hi' : i < H.length := by omega
    have hdi := fine_div hf hi'
    have hh := hf.hd i hi'
    simp only [Int.toNat_natCast] at hc hh ⊢
    obtain ⟨m, hmv⟩ : ∃ m, i / Q = m := ⟨_, rfl⟩
    have e1 : Int.tdiv (i : Int) (Q : Int) = (m : Int) := by rw [Int.tdiv_eq_ediv_of_nonneg (by omega), ← hmv]; rfl
    rw [hmv] at hdi hh
    rw [wrap64 (n := (i : Int) + 1) (by omega) (by omega), e1, wrap64 (n := (m : Int)) (by omega) (by omega)]
    simp only [Int.toNat_natCast]
    refine Ok.gd (by omega) (Ok.gd (by omega) ?_)
    refine Ok.condb (fun h => ?_) (fun _ => Ok.inl ⟨by omega, by omega⟩)
    have := hh h
    refine Ok.ite (fun h => by omega) (fun _ => Ok.gd (by omega) (Ok.gd (by omega) ?_))
    exact Ok.cond (fun h => by omega) (fun _ => Ok.inl ⟨by omega, by omega⟩)
  subst hy3
  simp only [Sum.elim_inl]
  refine Ok.bind (Ok.of (show m51 (((Q : Int), ((N : Int), (K, (D, (H, ((-1, (0, 0)), [])))))), ()) = some (true, ()) by simp [m51]) rfl) fun y6 h6 => ?_
  subst h6
  refine Ok.condb (fun h => by simp at h) (fun _ => ?_)
  refine Ok.bind (S := fun r => r = (true, ())) ?_ fun y7 h7 => ?_
  · unfold m52
    refine Ok.cond (fun h => by simp at h; omega) (fun _ => ?_)
    simp only
    rw [wrap64 (by omega) (by omega)]
    refine Ok.gd (by omega) (Ok.gd (by omega) (Ok.gd (by omega) ?_))
    refine Ok.bind (S := fun e => ∃ v, e = Sum.inl v) (Ok.loop 0 (fun i x => x.1 = (i : Int)) rfl ?_) fun y hy => ?_
    · rintro i ⟨x1, x2⟩ hi hx
      simp only at hx
      subst hx
      refine Ok.cond (fun hc => by simp at hc; omega) (fun _ => Ok.inr ⟨_, rfl⟩)
    · obtain ⟨v, rfl⟩ := hy
      exact Ok.some rfl
  subst h7
  refine Ok.condb (fun h => by simp at h) (fun _ => ?_)
  refine Ok.gd (by omega) ?_
  refine Ok.bind (m53_ok Q N K D H (-1, (0, 0)) [] (by omega) (by simp) (fun i hi => by simp at hi)) fun y8 h8 => ?_
  obtain ⟨l, ⟨⟩⟩ := y8
  obtain ⟨-, k2, k3⟩ := h8
  have hl : l = posi D := k3 (by simp) rfl
  subst hl
  simp only at k2 ⊢
  have hmem : ∀ x ∈ posi D, 0 ≤ x ∧ x < 256 := fun x hx => by
    have h2 := List.mem_filter.1 hx
    obtain ⟨i, hi⟩ := List.getElem?_of_mem h2.1
    have hil := (List.getElem?_eq_some_iff.1 hi).1
    have := hf.d1 i hil
    rw [List.getD_eq_getElem?_getD, hi] at this
    exact ⟨by simpa using h2.2, by simpa using this.2⟩
  have hnd := hf.nd
  generalize posi D = l at k2 hmem hnd
  refine Ok.bind (S := fun e => ∃ v, e = Sum.inl v) (Ok.loop l.length (fun i x => x.1 = (i : Int) ∧ x.2.length = 256 ∧ ∀ v : Nat, v < 256 → (x.2.getD v false = true → (v : Int) ∈ l.take i)) ⟨rfl, by simp, fun v hv h => by rw [List.getD_eq_getElem?_getD, List.getElem?_replicate] at h; split at h <;> simp at h⟩ ?_) fun y9 hy9 => ?_
  · rintro i ⟨x1, x2⟩ hi ⟨hx, hl2, hv⟩
    simp only at hx hl2 hv
    subst hx
    refine Ok.cond (fun hc => ?_) (fun hc => Ok.inr ⟨_, rfl⟩)
    simp only [Int.toNat_natCast] at hc ⊢
    have hi' : i < l.length := by omega
    have hget : l.getD i 0 = l[i] := by rw [List.getD_eq_getElem?_getD, List.getElem?_eq_getElem hi']; rfl
    have hk := hmem (l.getD i 0) (by rw [hget]; exact List.getElem_mem _)
    have hnot : l.getD i 0 ∉ l.take i := fun hm2 => by
      obtain ⟨j, hj⟩ := List.getElem?_of_mem hm2
      rw [List.getElem?_take] at hj
      split at hj
      · rename_i hji
        rw [List.getElem?_eq_getElem (by omega : j < l.length), Option.some.injEq, hget] at hj
        exact List.pairwise_iff_getElem.1 (show List.Pairwise (· ≠ ·) l from hnd) j i (by omega) hi' hji hj
      · simp at hj
    rw [take_snoc l i hi' 0]
    obtain ⟨n, hzn⟩ : ∃ n : Nat, l.getD i 0 = n := ⟨(l.getD i 0).toNat, by omega⟩
    rw [hzn] at hk hnot
    simp only [hzn, Int.toNat_natCast, wrap64 (n := (i : Int) + 1) (by omega) (by omega)]
    refine Ok.gd (by omega) (Ok.gd (by omega) ?_)
    refine Ok.cond (fun h => by omega) (fun q => ?_)
    refine Ok.gd (by omega) (Ok.gd (by omega) (Ok.gd (by omega) (Ok.gd (by omega) (Ok.gd (by omega) ?_))))
    refine Ok.condb (fun h => absurd (hv n (by omega) h) hnot) (fun hf => ?_)
    refine Ok.gd (by omega) (Ok.gd (by omega) (Ok.gd (by omega) (Ok.gd (by omega) (Ok.gd (by omega) (Ok.inl ⟨by omega, by simp, by simp [hl2], fun v hv2 h => ?_⟩)))))
    simp only at h
    rw [getD_set _ _ _ _ _ (by omega)] at h
    by_cases e : n = v
    · subst e; simp
    · rw [if_neg e] at h
      exact List.mem_append_left _ (hv v hv2 h)
  · obtain ⟨v, rfl⟩ := hy9
    exact Ok.some rfl

theorem m61_eq (a b c : Int) : m61 (a, (b, (c, ()))) = some (decide (b ≤ a ∧ a ≤ c), ()) := by
  unfold m61
  by_cases h : b ≤ a <;> simp [h]

theorem m100_fine (hf : Fine Q N K D H) : Ok (m100 (((Q : Int), ((N : Int), (K, (D, (H, ((-1, (0, 0)), [])))))), ())) (fun r => r.1 = true) := by
  have hm := shape_mul hf.sh
  obtain ⟨s1, s2, s3, s4, s5, s6⟩ := hf.sh
  have hdl := hf.dl
  have hhl := hf.hl
  unfold m100
  simp only [m38_shape hf.sh, Option.bind_some]
  refine Ok.ncond (fun h => by simp at h) (fun _ => ?_)
  refine Ok.ncond (fun h => absurd hdl h) (fun _ => ?_)
  rw [wrap64 (n := (N : Int) * Q) (by omega) (by omega)]
  refine Ok.ncond (fun h => absurd (by omega) h) (fun _ => ?_)
  refine Ok.cond (fun h => by simp at h; omega) (fun _ => ?_)
  refine Ok.bind (S := fun e => e = Sum.inl ()) (Ok.loop 0 (fun i x => x = (i : Int)) rfl ?_) fun y hy => ?_
  · rintro i x hi rfl
    refine Ok.cond (fun hc => by simp at hc; omega) (fun _ => Ok.inr rfl)
  subst hy
  simp only [Sum.elim_inl]
  refine Ok.cond (fun _ => ?_) (fun h => by simp at h)
  first
    | exact Ok.some rfl
    | (refine Ok.cond (fun _ => ?_) (fun h => by simp at h)
       refine Ok.cond (fun _ => ?_) (fun h => by simp at h)
       exact Ok.some rfl)

theorem m84_fine (hf : Fine Q N K D H) : Ok (m84 (((Q : Int), ((N : Int), (K, (D, (H, ((-1, (0, 0)), [])))))), ())) (fun r => r.1 = 0) := by
  have hm := shape_mul hf.sh
  obtain ⟨s1, s2, s3, s4, s5, s6⟩ := hf.sh
  have hdl := hf.dl
  have hhl := hf.hl
  unfold m84
  refine Ok.bind (m100_fine hf) fun y1 h1 => ?_
  refine Ok.condb (fun h => by rw [h1] at h; simp at h) (fun _ => ?_)
  refine Ok.cond (fun h => by simp at h) (fun _ => ?_)
  refine Ok.cond (fun h => by simp at h) (fun _ => ?_)
  refine Ok.bind (S := fun e => e.1 = true) (Ok.loop D.length (fun i x => x.1 = true ∧ x.2.1 = (i : Int) ∧ ∀ v, mget (false, .int .i64) x.2.2 v false = true → ∃ k, k < i ∧ D.getD k 0 = v) ⟨rfl, rfl, fun v h => by rw [mget_ifind] at h; simp [ifind] at h⟩ ?_) fun y2 h2 => ?_
  · rintro i ⟨x1, x2, m⟩ hi ⟨ht, hx, hv⟩
    simp only at ht hx hv
    subst ht hx
    refine Ok.cond (fun hc => ?_) (fun hc => Ok.inr rfl)
    simp only [Int.toNat_natCast] at hc ⊢
    have hi' : i < D.length := by omega
    have hd := hf.d1 i hi'
    simp only [wrap64 (n := (i : Int) + 1) (by omega) (by omega), m61_eq, Option.bind_some]
    refine Ok.gd (by omega) (Ok.gd (by omega) ?_)
    refine Ok.condb (fun _ => ?_) (fun h => by simp at h)
    refine Ok.cond (fun _ => ?_) (fun h => absurd ⟨hd.1, by omega⟩ h)
    refine Ok.cond (fun h0 => ?_) (fun h0 => ?_)
    · refine Ok.cond (fun _ => ?_) (fun h => absurd h0 h)
      have hno : mget (false, .int .i64) m (D.getD i 0) false = false := by
        cases hx : mget (false, .int .i64) m (D.getD i 0) false with
        | false => rfl
        | true =>
          obtain ⟨k, hk, he⟩ := hv _ hx
          exact (posi_inj hf.nd k i hk hi' (by omega) he).elim
      rw [hno]
      refine Ok.inl ⟨by omega, rfl, by simp, fun v h => ?_⟩
      simp only at h
      rw [mget_ifind, mset_ifind] at h
      by_cases e : v = D.getD i 0
      · exact ⟨i, by omega, e.symm⟩
      · rw [if_neg e, ← mget_ifind (q := .i64)] at h
        obtain ⟨k, hk, he⟩ := hv v h
        exact ⟨k, by omega, he⟩
    · refine Ok.cond (fun h => absurd h h0) (fun _ => ?_)
      refine Ok.inl ⟨by omega, rfl, by simp, fun v h => ?_⟩
      obtain ⟨k, hk, he⟩ := hv v h
      exact ⟨k, by omega, he⟩
  obtain ⟨y21, y22⟩ := y2
  simp only at h2
  subst h2
  refine Ok.bind (S := fun e => e.1 = true) (Ok.loop 0 (fun i x => x.1 = true ∧ x.2.1 = (i : Int)) ⟨rfl, rfl⟩ ?_) fun y3 h3 => ?_
  · rintro i ⟨x1, x2, x3⟩ hi ⟨ht, hx⟩
    simp only at ht hx
    subst ht hx
    exact Ok.cond (fun hc => by simp at hc; omega) (fun _ => Ok.inr rfl)
  obtain ⟨y31, y32⟩ := y3
  simp only at h3
  subst h3
  refine Ok.bind (S := fun e => e = true) (Ok.loop H.length (fun i x => x.1 = true ∧ x.2 = (i : Int)) ⟨rfl, rfl⟩ ?_) fun y4 h4 => ?_
  · rintro i ⟨x1, x2⟩ hi ⟨ht, hx⟩
    simp only at ht hx
    subst ht hx
    refine Ok.cond (fun hc => ?_) (fun hc => Ok.inr rfl)
    have hi' : i < H.length := by simp only at hc; omega
    have hdi := fine_div hf hi'
    have hh := hf.hd i hi'
    simp only [Int.toNat_natCast] at hc hh ⊢
    obtain ⟨m, hmv⟩ : ∃ m, i / Q = m := ⟨_, rfl⟩
    have e1 : Int.tdiv (i : Int) (Q : Int) = (m : Int) := by rw [Int.tdiv_eq_ediv_of_nonneg (by omega), ← hmv]; rfl
    rw [hmv] at hdi hh
    simp only [wrap64 (n := (i : Int) + 1) (by omega) (by omega), e1, wrap64 (n := (m : Int)) (by omega) (by omega), Int.toNat_natCast]
    refine Ok.gd (by omega) (Ok.gd (by omega) ?_)
    refine Ok.condb (fun _ => ?_) (fun h => by simp at h)
    refine Ok.condb (fun _ => Ok.inl ⟨by omega, rfl, by simp⟩) (fun h => ?_)
    have := hh (by simpa using h)
    refine Ok.ite (fun h => by omega) (fun _ => Ok.gd (by omega) (Ok.gd (by omega) (Ok.inl ⟨by omega, decide_eq_true this, by simp⟩)))
  subst h4
  refine Ok.condb (fun h => by simp at h) (fun _ => Ok.some rfl)

theorem m31_fine (hf : Fine Q N K D H) {p : Nat} (hp : p < H.length) : m31 (((Q : Int), ((N : Int), (K, (D, (H, ((-1, (0, 0)), [])))))), ((p : Int), ())) = some (if H.getD p false = true then ((D.getD (p / Q) 0, ((p % Q : Nat) : Int)), (true, ())) else ((0, 0), (false, ()))) := by
  have hm := shape_mul hf.sh
  obtain ⟨s1, s2, s3, s4, s5, s6⟩ := hf.sh
  have hdl := hf.dl
  have hhl := hf.hl
  have h84 : m84 (((Q : Int), ((N : Int), (K, (D, (H, ((-1, (0, 0)), [])))))), ()) = some (0, ()) := by
    obtain ⟨r, e, h⟩ := m84_fine hf
    obtain ⟨a, ⟨⟩⟩ := r
    simp only at h
    rw [e, h]
  have hdi := fine_div hf hp
  obtain ⟨m, hmv⟩ : ∃ m, p / Q = m := ⟨_, rfl⟩
  have hmp : m ≤ p := by rw [← hmv]; exact Nat.div_le_self _ _
  have e1 : Int.tdiv (p : Int) (Q : Int) = (m : Int) := by rw [Int.tdiv_eq_ediv_of_nonneg (by omega), ← hmv]; rfl
  have e2 : Int.tmod (p : Int) (Q : Int) = ((p % Q : Nat) : Int) := by rw [Int.tmod_eq_emod_of_nonneg (by omega)]; rfl
  rw [hmv] at hdi ⊢
  unfold m31 m60 m62
  simp only [h84, Option.bind_some, decide_true, Bool.not_true, cond_false]
  rw [wrap64 (n := (H.length : Int) - 1) (by omega) (by omega), m61_eq]
  simp only [Option.bind_some]
  have hin : (0 : Int) ≤ (p : Int) ∧ (p : Int) ≤ (H.length : Int) - 1 := by omega
  simp only [hin, and_self, decide_true, Bool.not_true, cond_false]
  rw [loop_idx' 0 (fun _ => ((0 : Int), ((0 : Int), (0 : Int)))) rfl (fun i hi => by omega) (e := Sum.inl (0, 0)) (by simp)]
  simp only [Option.bind_some, Sum.elim_inl]
  rw [if_neg (by omega), if_neg (by omega)]
  simp only [e1, e2, wrap64 (n := (m : Int)) (by omega) (by omega), Int.toNat_natCast, show decide ((-1 : Int) ≥ 0) = false from rfl, cond_false]
  rw [gd_pos trivial, gd_pos (by omega)]
  cases hh : H.getD p false with
  | false => simp
  | true =>
    simp only [cond_true, if_true]
    rw [gd_pos (by omega), gd_pos (by omega)]
    rfl
end
end Go.Proofs.Ytefekolpfklhdaa
end

section
/- ScanStays, with no program in sight. -/
namespace Go.Proofs.Ytefekolpfklhdaa
open Go Go.Proofs.AM

theorem m38_no {P L K : Int} (h : ¬ shape P L K) : Ok (m38 (P, (L, (K, ())))) (fun r => r.2.1 = 1) := by
  unfold m38
  refine Ok.cond (fun _ => Ok.some rfl) (fun h1 => ?_)
  refine Ok.cond (fun _ => Ok.some rfl) (fun h2 => ?_)
  refine Ok.cond (fun _ => Ok.some rfl) (fun h3 => ?_)
  refine Ok.cond (fun _ => Ok.some rfl) (fun h4 => ?_)
  refine Ok.cond (fun _ => Ok.some rfl) (fun h5 => ?_)
  refine Ok.cond (fun _ => Ok.some rfl) (fun h6 => ?_)
  simp only at h1 h2 h3 h4 h5 h6
  exact absurd ⟨by omega, by omega, by omega, by omega, by omega, by omega⟩ h

theorem m25_no {P L K : Int} (h : ¬ shape P L K) (u : List (Int × Int)) : Ok (m25 (P, (L, (K, (u, ()))))) (fun r => r.2.2.1 = 1) := by
  unfold m25
  refine Ok.bind (m38_no h) fun y1 h1 => ?_
  exact Ok.ncond (fun _ => Ok.some h1) (fun q => by rw [h1] at q; simp at q)

theorem m12_ok (P L K : Int) (l : List Ent) (u : List (Int × Int)) : Ok (m12 ((P, (L, (K, (l, u)))), ())) (fun r => r.1 = true → l.length ≤ 80 ∧ (L ≤ 24 ∨ 256 < L)) := by
  unfold m12
  refine Ok.cond (fun h1 => ?_) (fun _ => Ok.some fun h => by simp at h)
  refine Ok.cond (fun _ => ?_) (fun _ => Ok.some fun h => by simp at h)
  simp only at h1
  refine Ok.cond (fun h => Ok.some fun _ => ⟨by omega, .inl h⟩) (fun _ => Ok.some fun h => ⟨by omega, .inr ?_⟩)
  simp only [decide_eq_true_eq] at h
  omega

theorem m30_ok (l : List Int) (v : Int) (hl : l.length ≤ 1000000) : Ok (m30 (l, (v, ()))) (fun r => r.1 = false → v ∉ l) := by
  unfold m30 m59
  refine Ok.bind (S := fun y => 0 ≤ y.1 ∨ v ∉ l) ?_ fun y hy => Ok.some fun h => ?_
  · refine Ok.bind (S := fun e => match e with | .inl _ => v ∉ l | .inr i => 0 ≤ i) (Ok.loop l.length (fun i x => x = (i : Int) ∧ v ∉ l.take i) ⟨rfl, by simp⟩ ?_) fun y hy => ?_
    · rintro i x hi ⟨rfl, hv⟩
      refine Ok.cond (fun hc => ?_) (fun hc => Ok.inr ?_)
      · simp only at hc ⊢
        rw [wrap64 (n := (i : Int) + 1) (by omega) (by omega)]
        refine Ok.gd (by omega) (Ok.gd (by omega) ?_)
        refine Ok.cond (fun _ => Ok.inr (by omega)) (fun hne => Ok.inl ⟨by omega, by omega, ?_⟩)
        rw [take_snoc l i (by omega) 0, List.mem_append, List.mem_singleton]
        rintro (h | h)
        · exact hv h
        · exact hne (by simpa using h)
      · simp only at hc
        rw [List.take_of_length_le (by omega)] at hv
        exact hv
    · refine Ok.elim (fun a e => ?_) (fun a e => ?_)
      · subst e; exact Ok.some (.inr hy)
      · subst e; exact Ok.some (.inl hy)
  · simp only [decide_eq_false_iff_not] at h
    rcases hy with hy | hy
    · exact absurd hy h
    · exact hy

theorem getD_any {A : Type} {l : List A} {i : Nat} (z z' : A) (h : i < l.length) : l.getD i z = l.getD i z' := by
  rw [List.getD_eq_getElem?_getD, List.getD_eq_getElem?_getD, List.getElem?_eq_getElem h]; rfl

theorem Good.bd {Q b : Nat} {u : List (Int × Int)} {ph : Int} (g : Good Q b u ph) : 0 ≤ ph ∧ ph ≤ 255 := by
  obtain ⟨o, ho, hp⟩ := g.some
  have := g.all o ho hp
  rw [this] at hp
  simp only [isPl, Bool.and_eq_true, decide_eq_true_eq] at hp
  exact hp.1

theorem div_atS {Q b o : Nat} (h : o < Q) : (b * Q + o) / Q = b := by
  rw [Nat.add_comm, Nat.mul_comm, Nat.add_mul_div_left _ _ (by omega), Nat.div_eq_of_lt h]; omega

theorem table_fine {Q N : Nat} {K : Int} {u : List (Int × Int)} {loose D : List Int} {H : List Bool} (hs : shape Q N K) (hu : u.length = N * Q) (hD : D.length = N) (hH : H.length = N * Q) (hT : ∀ b, b < N → TabAt Q u loose D H b) : Fine Q N K D H := by
  have hm := shape_mul hs
  have hNQ : ((N * Q : Nat) : Int) = (Q : Int) * (N : Int) := by rw [Int.natCast_mul, Int.mul_comm]
  have hQ : 0 < Q := by have := hs.1; omega
  have hd : ∀ b, b < N → (∃ ph, Good Q b u ph ∧ D.getD b 0 = ph) ∨ (D.getD b 0 = -1) := fun b hb => by
    rw [getD_any 0 (-1) (by omega)]
    rcases hT b hb with ⟨ph, g, e, _⟩ | ⟨_, e, _⟩
    · exact .inl ⟨ph, g, e⟩
    · exact .inr e
  refine ⟨hs, by omega, by omega, fun b hb => ?_, fun p hp hh => ?_, posi_nodup fun i j hij hj h0 he => ?_⟩
  · rcases hd b (by omega) with ⟨ph, g, e⟩ | e
    · have := g.bd; omega
    · omega
  · simp only [Int.toNat_natCast]
    have hmod := Nat.mod_lt p hQ
    have hdiv : p / Q < N := Nat.div_lt_of_lt_mul (by rw [Nat.mul_comm]; omega)
    have hpe : (p / Q) * Q + p % Q = p := by rw [Nat.mul_comm]; exact Nat.div_add_mod p Q
    rcases hT (p / Q) hdiv with ⟨ph, g, e, _⟩ | ⟨_, _, e, _⟩
    · have := g.bd
      rw [getD_any 0 (-1) (by omega)]; omega
    · have := e (p % Q) hmod
      rw [hpe, hh] at this
      simp at this
  · rcases hd i (by omega) with ⟨ph, g, e⟩ | e
    · rcases hd j (by omega) with ⟨ph', g', e'⟩ | e'
      · obtain ⟨o, ho, hp⟩ := g'.some
        have h1 := g'.all o ho hp
        have hin : j * Q + o < N * Q := by
          have : (j + 1) * Q ≤ N * Q := Nat.mul_le_mul_right Q (by omega)
          rw [Nat.add_mul] at this; omega
        refine g.alone (j * Q + o) (by omega) (by rw [div_atS ho]; omega) hp ?_
        rw [h1]; simp only; omega
      · omega
    · omega

theorem R_pl {P : Int} {l : List Ent} {p : Nat} (hP : P ≤ 32) (h : 0 ≤ (R P l p).1) : isPl (R P l p) = true := by
  unfold R at h ⊢
  rcases best_spec P (p : Int) l with ⟨e, hn⟩ | ⟨x, hx, e, hh, _⟩
  · rw [e] at h; simp at h
  · rw [e]
    have hP1 := hh.1
    simp only [okE, Bool.and_eq_true, decide_eq_true_eq] at hP1
    simp only [isPl, Bool.and_eq_true, decide_eq_true_eq]
    omega

theorem stays (P L K : Int) (l : List Ent) (u0 : List (Int × Int)) : Ok (m9 ((P, (L, (K, (l, u0)))), ())) (fun r => r = (true, ())) := by
  unfold m9
  refine Ok.bind (Ok.of m11_eq rfl) fun y1 h1 => ?_
  subst h1
  refine Ok.condb (fun h => by simp at h) (fun _ => ?_)
  refine Ok.bind (m12_ok P L K l u0) fun y2 h2 => ?_
  refine Ok.condb (fun _ => Ok.some rfl) (fun q2 => ?_)
  obtain ⟨hl, hL⟩ := h2 (by simpa using q2)
  simp only
  have bad : ∀ v : List (Int × Int), ¬ shape P L K → Ok (Option.bind (m25 (P, (L, (K, (v, ()))))) fun (y4 : ((Int × (Int × (Int × ((List Int) × ((List Bool) × ((Int × (Int × Int)) × (List (Int × (List Int))))))))) × ((List Int) × (Int × Unit)))) =>
      bif (!(decide (y4.2.2.1 = (0 : Int)))) then
        (some (true, ()))
      else
        (Option.bind (m23 (y4.1, ())) fun (y5 : (Int × Unit)) =>
        bif (!(decide (y5.1 = (0 : Int)))) then
          (some (false, ()))
        else
          (Option.bind (loopM (X := Int) (E := (Unit ⊕ Bool)) (fun (x6 : Int) =>
              bif (decide (x6 < (((List.length v) : Nat) : Int))) then
                (gd ((0 : Int) ≤ x6) (gd (x6 < (((List.length v) : Nat) : Int)) (if P = (0 : Int) then
                      (none)
                    else
                      (Option.bind (m30 (y4.2.1, ((Go.IntKind.wrap .i64 (Int.tdiv x6 P)), ()))) fun (y7 : (Bool × Unit)) =>
                      bif y7.1 then
                        (some (Sum.inl (Go.IntKind.wrap .i64 (x6 + (1 : Int)))))
                      else
                        (Option.bind (m31 (y4.1, (x6, ()))) fun (y8 : ((Int × Int) × (Bool × Unit))) =>
                        bif (!(bif y8.2.1 then (decide ((List.getD v (Int.toNat x6) ((0 : Int), (0 : Int))).1 ≥ (0 : Int))) else (!(decide ((List.getD v (Int.toNat x6) ((0 : Int), (0 : Int))).1 ≥ (0 : Int)))))) then
                          (some (Sum.inr (Sum.inr false)))
                        else
                          (bif y8.2.1 then
                            (bif (!((decide (y8.1.1 = (List.getD v (Int.toNat x6) ((0 : Int), (0 : Int))).1)) && (decide (y8.1.2 = (List.getD v (Int.toNat x6) ((0 : Int), (0 : Int))).2)))) then
                              (some (Sum.inr (Sum.inr false)))
                            else
                              (some (Sum.inl (Go.IntKind.wrap .i64 (x6 + (1 : Int))))))
                          else
                            (some (Sum.inl (Go.IntKind.wrap .i64 (x6 + (1 : Int)))))))))))
              else
                (some (Sum.inr (Sum.inl ())))) (0 : Int)) fun (y6 : (Unit ⊕ Bool)) =>
          Sum.elim (fun y7 =>
            some (true, ())) (fun y7 =>
            some (y7, ())) y6))) (fun r => r = (true, ())) := fun v hns => by
    refine Ok.bind (m25_no hns v) fun y4 h4 => ?_
    exact Ok.ncond (fun _ => Ok.some rfl) (fun h => by rw [h4] at h; simp at h)
  by_cases hPL : shelfOk P L = true
  rotate_left
  · have hPL : shelfOk P L = false := by simpa using hPL
    refine Ok.bind (Ok.of (m14_bad P L l hPL) rfl) fun y3 h3 => ?_
    subst h3
    refine bad [] fun h => ?_
    simp only [shelfOk, decide_eq_false_iff_not] at hPL
    exact hPL ⟨h.1, h.2.1, h.2.2.1, h.2.2.2.1⟩
  have hPL' := hPL
  simp only [shelfOk, decide_eq_true_eq] at hPL'
  obtain ⟨a1, a2, a3, a4⟩ := hPL'
  obtain ⟨Q, rfl⟩ : ∃ Q : Nat, P = Q := ⟨P.toNat, by omega⟩
  obtain ⟨N, rfl⟩ : ∃ N : Nat, L = N := ⟨L.toNat, by omega⟩
  have hNQ : ((N * Q : Nat) : Int) = (Q : Int) * (N : Int) := by rw [Int.natCast_mul, Int.mul_comm]
  have hrg : ((Q : Int) * (N : Int)).toNat = N * Q := by rw [← hNQ]; exact Int.toNat_natCast _
  have h1024 : N * Q ≤ 24 * 32 := Nat.mul_le_mul (by omega) (by omega)
  refine Ok.bind (Ok.of (m14_eq Q N l hPL (by omega) (by omega)) rfl) fun y3 h3 => ?_
  subst h3
  rw [hrg]
  by_cases hs : shape Q N K
  rotate_left
  · exact bad _ hs
  obtain ⟨u, hu⟩ : ∃ u, u = (List.range (N * Q)).map (R Q l) := ⟨_, rfl⟩
  have hul : u.length = N * Q := by rw [hu]; simp
  have hat : ∀ p, p < N * Q → at_ u p = R Q l p := fun p hp => by
    rw [hu]
    simp only [at_, List.getD_eq_getElem?_getD, List.getElem?_map, List.getElem?_range hp]
    rfl
  rw [← hu]
  refine Ok.bind (m25_ok Q N K u hs hul) fun y4 h4 => ?_
  obtain ⟨D, H, loose, rfl, g1, g2, g3, g4, g5⟩ := h4
  have hf := table_fine hs hul g1 g2 g5
  refine Ok.ncond (fun h => absurd rfl h) (fun _ => ?_)
  refine Ok.bind (m23_fine hf) fun y5 h5 => ?_
  refine Ok.ncond (fun h => absurd h5 h) (fun _ => ?_)
  refine Ok.bind (S := fun e => e = Sum.inl ()) (Ok.loop u.length (fun i x => x = (i : Int)) rfl ?_) fun y6 h6 => ?_
  · rintro p x hi rfl
    refine Ok.cond (fun hc => ?_) (fun _ => Ok.inr rfl)
    have hp : p < N * Q := by simp only at hc; omega
    have hmod := Nat.mod_lt p (show 0 < Q by omega)
    have hdiv : p / Q < N := Nat.div_lt_of_lt_mul (by rw [Nat.mul_comm]; omega)
    have hpe : (p / Q) * Q + p % Q = p := by rw [Nat.mul_comm]; exact Nat.div_add_mod p Q
    have hTb := g5 (p / Q) hdiv
    have hR := hat p hp
    have hpl : 0 ≤ (at_ u p).1 → isPl (at_ u p) = true := by rw [hR]; exact R_pl a2
    have hDb := getD_any (l := D) (i := p / Q) 0 (-1) (by omega)
    have hpl2 : isPl (at_ u p) = true → 0 ≤ (at_ u p).1 := fun h => by
      simp only [isPl, Bool.and_eq_true, decide_eq_true_eq] at h; exact h.1.1
    obtain ⟨b, hb⟩ : ∃ b, p / Q = b := ⟨_, rfl⟩
    obtain ⟨o, ho⟩ : ∃ o, p % Q = o := ⟨_, rfl⟩
    rw [hb, ho] at hpe
    rw [hb] at hTb hdiv hDb
    rw [ho] at hmod
    have hbp : b ≤ p := by rw [← hb]; exact Nat.div_le_self _ _
    have e1 : Int.tdiv (p : Int) (Q : Int) = (b : Int) := by rw [Int.tdiv_eq_ediv_of_nonneg (by omega), ← hb]; rfl
    have hm31 := m31_fine hf (p := p) (by omega)
    rw [hb, ho] at hm31
    simp only [e1, wrap64 (n := (b : Int)) (by omega) (by omega), wrap64 (n := (p : Int) + 1) (by omega) (by omega), Int.toNat_natCast, hm31, Option.bind_some] at hc ⊢
    refine Ok.gd (by omega) (Ok.gd (by omega) (Ok.ite (fun h => by omega) fun _ => ?_))
    have next : Ok (some (Sum.inl ((p : Int) + 1))) (fun s : Int ⊕ (Unit ⊕ Bool) => s.elim (fun y => p < u.length ∧ y = ((p + 1 : Nat) : Int)) (fun e => e = Sum.inl ())) := Ok.inl ⟨by omega, by omega⟩
    refine Ok.bind (m30_ok loose (b : Int) (by omega)) fun y7 h7 => ?_
    refine Ok.condb (fun _ => next) (fun q7 => ?_)
    have hnl := h7 q7
    change Ok (bif (!(bif (if H.getD p false = true then ((D.getD b 0, ((o : Nat) : Int)), (true, ())) else ((0, 0), (false, ()))).2.1 then decide ((at_ u p).1 ≥ 0) else !decide ((at_ u p).1 ≥ 0))) then _ else _) _
    rcases hTb with ⟨ph, g, e, _, hH⟩ | ⟨_, _, hH, hlo⟩
    · have hHp := hH o hmod
      rw [hpe] at hHp
      cases hx : isPl (at_ u p) with
      | true =>
        rw [hx] at hHp
        have hall := g.all o hmod (by rw [hpe]; exact hx)
        rw [hpe] at hall
        rw [if_pos hHp]
        have h0 := hpl2 hx
        have hD0 : D.getD b 0 = ph := by rw [hDb]; exact e
        have k1 : u[p]?.getD (0, 0) = (ph, (o : Int)) := by rw [← List.getD_eq_getElem?_getD]; exact hall
        have k2 : D[b]?.getD 0 = ph := by rw [← List.getD_eq_getElem?_getD]; exact hD0
        have h0' : 0 ≤ ph := by rw [hall] at h0; exact h0
        refine Ok.condb (fun h => by simp [k1] at h; omega) (fun _ => ?_)
        refine Ok.condb (fun _ => ?_) (fun h => by simp at h)
        refine Ok.condb (fun h => ?_) (fun _ => next)
        exfalso
        simp [k1, k2] at h
      | false =>
        rw [hx] at hHp
        have h0 : ¬ 0 ≤ (at_ u p).1 := fun h => by have := hpl h; rw [hx] at this; simp at this
        rw [if_neg (by rw [hHp]; simp)]
        refine Ok.condb (fun h => ?_) (fun _ => Ok.condb (fun h => by simp at h) (fun _ => next))
        exfalso; rw [show at_ u p = u[p]?.getD (0, 0) from List.getD_eq_getElem?_getD] at h0; simp at h; omega
    · have hHp := hH o hmod
      rw [hpe] at hHp
      have hx : isPl (at_ u p) = false := by
        cases hx : isPl (at_ u p) with
        | false => rfl
        | true => exact absurd (hlo.2 ⟨o, hmod, by rw [hpe]; exact hx⟩) hnl
      have h0 : ¬ 0 ≤ (at_ u p).1 := fun h => by have := hpl h; rw [hx] at this; simp at this
      rw [if_neg (by rw [hHp]; simp)]
      refine Ok.condb (fun h => ?_) (fun _ => Ok.condb (fun h => by simp at h) (fun _ => next))
      exfalso; rw [show at_ u p = u[p]?.getD (0, 0) from List.getD_eq_getElem?_getD] at h0; simp at h; omega
  · subst h6
    exact Ok.some rfl

theorem ScanStays_pure : ∀ x : AM.PDen [(true, (.pair (.int .i64) (.pair (.int .i64) (.pair (.int .i64) (.pair (.sl (.pair (.pair (.int .i64) (.int .i64)) (.pair (.int .i64) (.pair (.int .i64) (.pair (.int .i64) (.int .i64)))))) (.sl (.pair (.int .i64) (.int .i64))))))))], AM.PWf _ x → m9 x = some (true, ()) := by
  rintro ⟨⟨P, L, K, l, u0⟩, ⟨⟩⟩ _
  obtain ⟨r, e, rfl⟩ := stays P L K l u0
  exact e
end Go.Proofs.Ytefekolpfklhdaa
end
