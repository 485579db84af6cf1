/- What the functions of this claim compute, each shown by the kernel, and what that comes to, with no program in sight. No condition. -/
import Derived.Test.YtefekolpfklhdaaCa
set_option maxRecDepth 2000
set_option linter.unusedVariables false
set_option linter.unusedSimpArgs false
section
/- The table of places: the two readings. -/
namespace Go.Proofs.Ytefekolpfklhdaa
open Go Go.Proofs.AM

theorem m25_ok' (Q N : Nat) (K : Int) (u : List (Int × Int)) (hs : shape Q N K) (hu : u.length = N * Q) :
    Ok (m25 ((Q : Int), ((N : Int), (K, (u, ()))))) (fun r => ∃ (D : List Int) (H : List Bool) (loose : List Int), r = (((Q : Int), ((N : Int), (K, (D, (H, ((-1, (0, 0)), [])))))), (loose, (0, ()))) ∧ D.length = N ∧ H.length = N * Q ∧ loose.length ≤ N ∧ (∀ x : Int, x ∈ loose → 0 ≤ x ∧ x < N) ∧ loose.Pairwise (· < ·) ∧ ∀ b, b < N → TabAt Q u loose D H b) := by
  have hm := shape_mul hs
  obtain ⟨p1, p2, p3, p4, p5, p6⟩ := hs
  have hNQ : ((N * Q : Nat) : Int) = (N : Int) * (Q : Int) := by simp
  have hlen : N * Q ≤ 8192 := by omega
  unfold m25
  simp only [m38_shape ⟨p1, p2, p3, p4, p5, p6⟩, Option.bind_some]
  refine Ok.ncond (fun h => absurd trivial h) (fun _ => ?_)
  rw [wrap64 (n := (N : Int) * Q) (by omega) (by omega)]
  refine Ok.ncond (fun h => absurd (by rw [hu]; omega) h) (fun _ => ?_)
  refine Ok.bind (S := fun y => y.2.1.length = N ∧ y.2.2.length = N * Q ∧ y.1.length ≤ N ∧ (∀ x : Int, x ∈ y.1 → 0 ≤ x ∧ x < N) ∧ y.1.Pairwise (· < ·) ∧ ∀ b, b < N → TabAt Q u y.1 y.2.1 y.2.2 b)
    (Ok.loop N (fun i x => x.2.1 = (i : Int) ∧ x.2.2.1.length = N ∧ x.2.2.2.length = N * Q ∧ x.1.length ≤ i ∧ (∀ v ∈ x.1, 0 ≤ v ∧ v < (i : Int)) ∧ x.1.Pairwise (· < ·) ∧ (∀ b, b < i → TabAt Q u x.1 x.2.2.1 x.2.2.2 b) ∧ (∀ b, i ≤ b → x.2.2.1.getD b (-1) = -1) ∧ ∀ p, i * Q ≤ p → x.2.2.2.getD p false = false)
      ⟨rfl, by simp, by simp, by simp, by simp, by simp, fun b hb => by omega, fun b _ => getD_rep _ _ _, fun p _ => getD_rep _ _ _⟩ ?_) fun y hy => ?_
  · rintro i ⟨loose, x2, D, H⟩ hi ⟨hx, hD, hH, hl, hlo, hpw, hT, hD1, hH1⟩
    simp only at hx hD hH hl hlo hpw hT hD1 hH1
    subst hx
    refine Ok.cond (fun hc => ?_) (fun hc => Ok.inr ?_)
    rotate_left
    · have e : i = N := by simp only at hc; omega
      subst e
      exact ⟨hD, hH, hl, hlo, hpw, hT⟩
    have hi' : i < N := by simp only at hc; omega
    obtain ⟨B, hB⟩ : ∃ B, i * Q = B := ⟨_, rfl⟩
    have hBN : B + Q ≤ u.length := by
      have : (i + 1) * Q ≤ N * Q := Nat.mul_le_mul_right Q hi'
      rw [Nat.add_mul, hB] at this; omega
    have below : ∀ b, b < i → ∀ o, o < Q → b * Q + o < B := fun b hb o ho => by
      have : (b + 1) * Q ≤ i * Q := Nat.mul_le_mul_right Q hb
      rw [Nat.add_mul, hB] at this; omega
    have w0 : (i : Int) * (Q : Int) = (B : Int) := by rw [← hB]; simp
    have w0' : ((i : Int) + 1) * (Q : Int) = ((B + Q : Nat) : Int) := by rw [Int.add_mul, w0]; simp
    have w1 : IntKind.wrap .i64 ((i : Int) * (Q : Int)) = (B : Int) := by rw [w0, wrap64 (by omega) (by omega)]
    have w2 : IntKind.wrap .i64 (IntKind.wrap .i64 ((i : Int) + 1) * (Q : Int)) = ((B + Q : Nat) : Int) := by rw [wrap64 (n := (i : Int) + 1) (by omega) (by omega), w0', wrap64 (by omega) (by omega)]
    have w3 : IntKind.wrap .i64 ((i : Int) + 1) = (i : Int) + 1 := wrap64 (by omega) (by omega)
    have w2' : IntKind.wrap .i64 (((i : Int) + 1) * (Q : Int)) = ((B + Q : Nat) : Int) := by rw [w0', wrap64 (by omega) (by omega)]
    have hol : ((u.drop B).take Q).length = Q := own_len hBN
    simp only [w1, w3, w2', Int.toNat_natCast, Nat.add_sub_cancel_left, hol]
    refine Ok.gd (by omega) (Ok.gd (by omega) (Ok.gd (by omega) ?_))
    refine Ok.bind (m32_ok Q N i u (by omega) (by omega) hi' hu) fun y3 h3 => ?_
    obtain ⟨h31, h32⟩ := h3
    rw [hB] at hH1
    refine Ok.condb (fun hb => ?_) (fun hb => ?_)
    · have hg := h31 hb
      refine Ok.gd (by omega) (Ok.gd (by omega) (Ok.gd (by omega) ?_))
      refine Ok.bind (S := fun H' => H'.length = N * Q ∧ (∀ p, (p < B ∨ B + Q ≤ p) → H'.getD p false = H.getD p false) ∧ ∀ o, o < Q → H'.getD (B + o) false = isPl (at_ u (B + o)))
        (Ok.loop Q (fun j x => x.1 = (j : Int) ∧ x.2.length = N * Q ∧ (∀ p, (p < B ∨ B + j ≤ p) → x.2.getD p false = H.getD p false) ∧ ∀ o, o < j → x.2.getD (B + o) false = isPl (at_ u (B + o))) ⟨rfl, hH, fun _ _ => rfl, fun o ho => by omega⟩ ?_) fun H' hH' => ?_
      · rintro j ⟨x1, H2⟩ hj ⟨hx, g1, g2, g3⟩
        simp only at hx g1 g2 g3
        subst hx
        refine Ok.cond (fun hc => ?_) (fun hc => Ok.inr ?_)
        · have hj' : j < Q := by simp only at hc; omega
          have w4 : IntKind.wrap .i64 ((B : Int) + (j : Int)) = ((B + j : Nat) : Int) := by rw [wrap64 (by omega) (by omega)]; simp
          simp only [Int.toNat_natCast, own_get hj', m50_eq, wrap64 (n := (j : Int) + 1) (by omega) (by omega), w4]
          refine Ok.gd (by omega) (Ok.gd (by omega) ?_)
          refine Ok.bind (Ok.of rfl rfl) fun y5 h5 => ?_
          subst h5
          refine Ok.gd (by omega) (Ok.gd (by omega) (Ok.gd (by omega) (Ok.inl ⟨hj', by simp, by simp [g1], fun p hp => ?_, fun o ho => ?_⟩)))
          · simp only
            rw [getD_set _ _ _ _ _ (by omega), if_neg (by omega)]
            exact g2 p (by omega)
          · simp only
            rw [getD_set _ _ _ _ _ (by omega)]
            by_cases e : o = j
            · subst e; rw [if_pos rfl]
            · rw [if_neg (by omega)]; exact g3 o (by omega)
        · have e : j = Q := by simp only at hc; omega
          subst e
          exact ⟨g1, g2, g3⟩
      · obtain ⟨g1, g2, g3⟩ := hH'
        refine Ok.inl ⟨hi', by simp, by simp [hD], g1, by simp only; omega, fun v hv => ?_, hpw, fun b hb' => ?_, fun b hb' => ?_, fun p hp => ?_⟩
        · have := hlo v hv; omega
        · by_cases e : b = i
          · subst e
            left
            refine ⟨_, hg, ?_, fun hv => ?_, fun o ho => ?_⟩
            · simp only; rw [getD_set _ _ _ _ _ (by omega), if_pos rfl]
            · have := hlo _ hv; omega
            · simp only; rw [hB]; exact g3 o ho
          · refine (hT b (by omega)).same ?_ Iff.rfl (fun o ho => ?_)
            · simp only; rw [getD_set _ _ _ _ _ (by omega), if_neg (by omega)]
            · simp only; exact g2 _ (.inl (below b (by omega) o ho))
        · simp only; rw [getD_set _ _ _ _ _ (by omega), if_neg (by omega)]; exact hD1 b (by omega)
        · have hp' : B + Q ≤ p := by rw [Nat.add_mul, hB] at hp; omega
          simp only; rw [g2 p (.inr hp')]; exact hH1 p (by omega)
    · have hng := h32 hb
      have hHo : ∀ o, o < Q → H.getD (i * Q + o) false = false := fun o _ => hH1 _ (by omega)
      have fin : ∀ loose' : List Int, loose'.length ≤ i + 1 → (∀ v ∈ loose', 0 ≤ v ∧ v < ((i + 1 : Nat) : Int)) → loose'.Pairwise (· < ·) → (∀ b, b < i → ((b : Int) ∈ loose' ↔ (b : Int) ∈ loose)) → ((i : Int) ∈ loose' ↔ ∃ o, o < Q ∧ isPl (at_ u (i * Q + o)) = true) →
          Ok (some (Sum.inl (loose', ((i : Int) + 1, (D, H))))) (fun s : ((List Int) × (Int × ((List Int) × (List Bool)))) ⊕ ((List Int) × ((List Int) × (List Bool))) => s.elim (fun x => i < N ∧ (x.2.1 = ((i + 1 : Nat) : Int) ∧ x.2.2.1.length = N ∧ x.2.2.2.length = N * Q ∧ x.1.length ≤ i + 1 ∧ (∀ v ∈ x.1, 0 ≤ v ∧ v < ((i + 1 : Nat) : Int)) ∧ x.1.Pairwise (· < ·) ∧ (∀ b, b < i + 1 → TabAt Q u x.1 x.2.2.1 x.2.2.2 b) ∧ (∀ b, i + 1 ≤ b → x.2.2.1.getD b (-1) = -1) ∧ ∀ p, (i + 1) * Q ≤ p → x.2.2.2.getD p false = false))
            (fun y => y.2.1.length = N ∧ y.2.2.length = N * Q ∧ y.1.length ≤ N ∧ (∀ x : Int, x ∈ y.1 → 0 ≤ x ∧ x < N) ∧ y.1.Pairwise (· < ·) ∧ ∀ b, b < N → TabAt Q u y.1 y.2.1 y.2.2 b)) := by
        intro loose' c1 c2 c5 c3 c4
        refine Ok.inl ⟨hi', by simp, hD, hH, c1, c2, c5, fun b hb' => ?_, fun b hb' => hD1 b (by omega), fun p hp => hH1 p (by rw [Nat.add_mul, hB] at hp; omega)⟩
        by_cases e : b = i
        · subst e
          exact .inr ⟨hng, hD1 b (Nat.le_refl _), hHo, c4⟩
        · exact (hT b (by omega)).same rfl (c3 b (by omega)) (fun _ _ => rfl)
      refine Ok.bind (S := fun e => match e with
          | .inl _ => ∀ o, o < Q → isPl (at_ u (B + o)) = false
          | .inr v => 0 ≤ v ∧ ∃ o, o < Q ∧ isPl (at_ u (B + o)) = true)
        (Ok.loop Q (fun j x => x = (j : Int) ∧ ∀ o, o < j → isPl (at_ u (B + o)) = false) ⟨rfl, fun o ho => by omega⟩ ?_) fun y4 hy4 => ?_
      · rintro j x hj ⟨rfl, g1⟩
        refine Ok.cond (fun hc => ?_) (fun hc => Ok.inr (fun o ho => g1 o (by omega)))
        have hj' : j < Q := by omega
        simp only [Int.toNat_natCast, own_get hj', m50_eq, wrap64 (n := (j : Int) + 1) (by omega) (by omega)]
        refine Ok.gd (by omega) (Ok.gd (by omega) ?_)
        refine Ok.bind (Ok.of rfl rfl) fun y5 h5 => ?_
        subst h5
        refine Ok.condb (fun hp => Ok.inr ⟨by omega, j, hj', hp⟩) (fun hp => Ok.inl ⟨hj', by omega, fun o ho => ?_⟩)
        by_cases e : o = j
        · subst e; exact hp
        · exact g1 o (by omega)
      · refine Ok.elim (fun v e => ?_) (fun v e => ?_)
        · subst e
          refine Ok.cond (fun h => by omega) (fun _ => fin loose (by omega) (fun v hv => by have := hlo v hv; omega) hpw (fun _ _ => Iff.rfl) ?_)
          constructor
          · intro hv; have := hlo _ hv; omega
          · rintro ⟨o, ho, hp⟩
            rw [hB, hy4 o ho] at hp; simp at hp
        · subst e
          refine Ok.cond (fun _ => ?_) (fun h => absurd hy4.1 h)
          refine Ok.gd (by simp; omega) (Ok.gd (by simp; omega) (fin _ (by simp; omega) (fun v hv => ?_) ?_ (fun b hb' => ?_) ?_))
          · rcases List.mem_append.1 hv with hv | hv
            · have := hlo v hv; omega
            · simp only [List.mem_singleton] at hv; omega
          · rw [List.pairwise_append]
            refine ⟨hpw, by simp, fun a ha z hz => ?_⟩
            simp only [List.mem_singleton] at hz
            have := hlo a ha
            omega
          · simp only [List.mem_append, List.mem_singleton]
            constructor
            · rintro (h | h)
              · exact h
              · omega
            · exact .inl
          · simp only [List.mem_append, List.mem_singleton, or_true, true_iff]
            rw [hB]; exact hy4.2
  · obtain ⟨loose, D, H⟩ := y
    obtain ⟨a1, a2, a3, a4, a6, a5⟩ := hy
    exact Ok.some ⟨D, H, loose, rfl, a1, a2, a3, a4, a6, a5⟩

theorem m43_eq {Q N : Nat} {K : Int} (h : shape Q N K) : m43 ((Q : Int), ((N : Int), (K, ()))) = some (((Q : Int), ((N : Int), (K, (List.replicate N (-1 : Int), (List.replicate (N * Q) false, ((-1, (0, 0)), [])))))), (0, ())) := by
  have hm := shape_mul h
  obtain ⟨h1, h2, h3, h4, h5, h6⟩ := h
  have e : (Q : Int) * (N : Int) = ((N * Q : Nat) : Int) := by rw [Int.natCast_mul, Int.mul_comm]
  unfold m43
  simp only [Bool.cond_eq_ite, decide_eq_true_eq]
  rw [if_neg (by omega), if_neg (by omega), if_neg (by omega), if_neg (by omega), if_neg (by omega), if_neg (by omega), wrap64 (n := (Q : Int) * (N : Int)) (by omega) (by omega)]
  rw [loop_idx' N (fun i => ((i : Int), ((Q : Int), ((N : Int), (K, (List.replicate i (-1 : Int), ([], (0, (0, (0, [])))))))))) ?_ ?_ (e := ((Q : Int), ((N : Int), (K, (List.replicate N (-1 : Int), ([], (0, (0, (0, []))))))))) ?_]
  · simp only [Option.bind_some]
    rw [gd_pos (by omega), gd_pos (by omega), gd_pos (by omega), e]
    simp only [Int.toNat_natCast]
  · rfl
  · intro i hi
    simp only
    rw [if_pos (by omega), gd_pos (by simp; omega), gd_pos (by simp; omega), wrap64 (by omega) (by omega)]
    simp only [List.replicate_succ', Int.natCast_add, Int.natCast_one]
  · simp only
    rw [if_neg (by omega)]

theorem m34_ok (Q N : Nat) (K : Int) (u : List (Int × Int)) (hs : shape Q N K) (hu : u.length = N * Q) :
    Ok (m34 ((Q : Int), ((N : Int), (K, (u, ()))))) (fun r => ∃ (D : List Int) (H : List Bool) (loose : List Int), r = (((Q : Int), ((N : Int), (K, (D, (H, ((-1, (0, 0)), [])))))), (loose, (0, ()))) ∧ D.length = N ∧ H.length = N * Q ∧ loose.length ≤ N ∧ (∀ x : Int, x ∈ loose → 0 ≤ x ∧ x < N) ∧ loose.Pairwise (· < ·) ∧ ∀ b, b < N → TabAt Q u loose D H b) := by
  have hm := shape_mul hs
  obtain ⟨p1, p2, p3, p4, p5, p6⟩ := hs
  have hNQ : ((N * Q : Nat) : Int) = (N : Int) * (Q : Int) := by simp
  have hlen : N * Q ≤ 8192 := by omega
  unfold m34
  simp only [m43_eq ⟨p1, p2, p3, p4, p5, p6⟩, Option.bind_some]
  refine Ok.ncond (fun h => absurd trivial h) (fun _ => ?_)
  rw [wrap64 (n := (N : Int) * Q) (by omega) (by omega)]
  refine Ok.ncond (fun h => absurd (by rw [hu]; omega) h) (fun _ => ?_)
  refine Ok.bind (S := fun y => y.2.1.length = N ∧ y.2.2.length = N * Q ∧ y.1.length ≤ N ∧ (∀ x : Int, x ∈ y.1 → 0 ≤ x ∧ x < N) ∧ y.1.Pairwise (· < ·) ∧ ∀ b, b < N → TabAt Q u y.1 y.2.1 y.2.2 b)
    (Ok.loop N (fun i x => x.2.1 = (i : Int) ∧ x.2.2.1.length = N ∧ x.2.2.2.length = N * Q ∧ x.1.length ≤ i ∧ (∀ v ∈ x.1, 0 ≤ v ∧ v < (i : Int)) ∧ x.1.Pairwise (· < ·) ∧ (∀ b, b < i → TabAt Q u x.1 x.2.2.1 x.2.2.2 b) ∧ (∀ b, i ≤ b → x.2.2.1.getD b (-1) = -1) ∧ ∀ p, i * Q ≤ p → x.2.2.2.getD p false = false)
      ⟨rfl, by simp, by simp, by simp, by simp, by simp, fun b hb => by omega, fun b _ => getD_rep _ _ _, fun p _ => getD_rep _ _ _⟩ ?_) fun y hy => ?_
  · rintro i ⟨loose, x2, D, H⟩ hi ⟨hx, hD, hH, hl, hlo, hpw, hT, hD1, hH1⟩
    simp only at hx hD hH hl hlo hpw hT hD1 hH1
    subst hx
    refine Ok.cond (fun hc => ?_) (fun hc => Ok.inr ?_)
    rotate_left
    · have e : i = N := by simp only at hc; omega
      subst e
      exact ⟨hD, hH, hl, hlo, hpw, hT⟩
    have hi' : i < N := by simp only at hc; omega
    obtain ⟨B, hB⟩ : ∃ B, i * Q = B := ⟨_, rfl⟩
    have hBN : B + Q ≤ u.length := by
      have : (i + 1) * Q ≤ N * Q := Nat.mul_le_mul_right Q hi'
      rw [Nat.add_mul, hB] at this; omega
    have below : ∀ b, b < i → ∀ o, o < Q → b * Q + o < B := fun b hb o ho => by
      have : (b + 1) * Q ≤ i * Q := Nat.mul_le_mul_right Q hb
      rw [Nat.add_mul, hB] at this; omega
    have w0 : (i : Int) * (Q : Int) = (B : Int) := by rw [← hB]; simp
    have w1 : IntKind.wrap .i64 ((i : Int) * (Q : Int)) = (B : Int) := by rw [w0, wrap64 (by omega) (by omega)]
    have w3 : IntKind.wrap .i64 ((i : Int) + 1) = (i : Int) + 1 := wrap64 (by omega) (by omega)
    simp only [w1, w3, Int.toNat_natCast]
    refine Ok.bind (m33_ok' Q N i u (by omega) (by omega) hi' hu) fun y3 h3 => ?_
    obtain ⟨h31, h32⟩ := h3
    rw [hB] at hH1
    refine Ok.condb (fun hb => ?_) (fun hb => ?_)
    rotate_left
    · have hg := h31 (by simpa using hb)
      refine Ok.gd (by omega) (Ok.gd (by omega) (Ok.gd (by omega) ?_))
      refine Ok.bind (S := fun H' => H'.length = N * Q ∧ (∀ p, (p < B ∨ B + Q ≤ p) → H'.getD p false = H.getD p false) ∧ ∀ o, o < Q → H'.getD (B + o) false = isPl (at_ u (B + o)))
        (Ok.loop Q (fun j x => x.1 = (j : Int) ∧ x.2.length = N * Q ∧ (∀ p, (p < B ∨ B + j ≤ p) → x.2.getD p false = H.getD p false) ∧ ∀ o, o < j → x.2.getD (B + o) false = isPl (at_ u (B + o))) ⟨rfl, hH, fun _ _ => rfl, fun o ho => by omega⟩ ?_) fun H' hH' => ?_
      · rintro j ⟨x1, H2⟩ hj ⟨hx, g1, g2, g3⟩
        simp only at hx g1 g2 g3
        subst hx
        refine Ok.cond (fun hc => ?_) (fun hc => Ok.inr ?_)
        · have hj' : j < Q := by simp only at hc; omega
          have w4 : IntKind.wrap .i64 ((B : Int) + (j : Int)) = ((B + j : Nat) : Int) := by rw [wrap64 (by omega) (by omega)]; simp
          simp only [Int.toNat_natCast, m63_eq, Option.bind_some, wrap64 (n := (j : Int) + 1) (by omega) (by omega), w4]
          refine Ok.gd (by omega) (Ok.gd (by omega) ?_)
          refine Ok.gd (by omega) (Ok.gd (by omega) (Ok.gd (by omega) (Ok.inl ⟨hj', by simp, by simp [g1], fun p hp => ?_, fun o ho => ?_⟩)))
          · simp only
            rw [getD_set _ _ _ _ _ (by omega), if_neg (by omega)]
            exact g2 p (by omega)
          · simp only
            rw [getD_set _ _ _ _ _ (by omega)]
            by_cases e : o = j
            · subst e; rw [if_pos rfl]
            · rw [if_neg (by omega)]; exact g3 o (by omega)
        · have e : j = Q := by simp only at hc; omega
          subst e
          exact ⟨g1, g2, g3⟩
      · obtain ⟨g1, g2, g3⟩ := hH'
        refine Ok.inl ⟨hi', by simp, by simp [hD], g1, by simp only; omega, fun v hv => ?_, hpw, fun b hb' => ?_, fun b hb' => ?_, fun p hp => ?_⟩
        · have := hlo v hv; omega
        · by_cases e : b = i
          · subst e
            left
            refine ⟨_, hg, ?_, fun hv => ?_, fun o ho => ?_⟩
            · simp only; rw [getD_set _ _ _ _ _ (by omega), if_pos rfl]
            · have := hlo _ hv; omega
            · simp only; rw [hB]; exact g3 o ho
          · refine (hT b (by omega)).same ?_ Iff.rfl (fun o ho => ?_)
            · simp only; rw [getD_set _ _ _ _ _ (by omega), if_neg (by omega)]
            · simp only; exact g2 _ (.inl (below b (by omega) o ho))
        · simp only; rw [getD_set _ _ _ _ _ (by omega), if_neg (by omega)]; exact hD1 b (by omega)
        · have hp' : B + Q ≤ p := by rw [Nat.add_mul, hB] at hp; omega
          simp only; rw [g2 p (.inr hp')]; exact hH1 p (by omega)
    · have hng := (h32 (by simpa using hb)).2
      have hHo : ∀ o, o < Q → H.getD (i * Q + o) false = false := fun o _ => hH1 _ (by omega)
      have fin : ∀ loose' : List Int, loose'.length ≤ i + 1 → (∀ v ∈ loose', 0 ≤ v ∧ v < ((i + 1 : Nat) : Int)) → loose'.Pairwise (· < ·) → (∀ b, b < i → ((b : Int) ∈ loose' ↔ (b : Int) ∈ loose)) → ((i : Int) ∈ loose' ↔ ∃ o, o < Q ∧ isPl (at_ u (i * Q + o)) = true) →
          Ok (some (Sum.inl (loose', ((i : Int) + 1, (D, H))))) (fun s : ((List Int) × (Int × ((List Int) × (List Bool)))) ⊕ ((List Int) × ((List Int) × (List Bool))) => s.elim (fun x => i < N ∧ (x.2.1 = ((i + 1 : Nat) : Int) ∧ x.2.2.1.length = N ∧ x.2.2.2.length = N * Q ∧ x.1.length ≤ i + 1 ∧ (∀ v ∈ x.1, 0 ≤ v ∧ v < ((i + 1 : Nat) : Int)) ∧ x.1.Pairwise (· < ·) ∧ (∀ b, b < i + 1 → TabAt Q u x.1 x.2.2.1 x.2.2.2 b) ∧ (∀ b, i + 1 ≤ b → x.2.2.1.getD b (-1) = -1) ∧ ∀ p, (i + 1) * Q ≤ p → x.2.2.2.getD p false = false))
            (fun y => y.2.1.length = N ∧ y.2.2.length = N * Q ∧ y.1.length ≤ N ∧ (∀ x : Int, x ∈ y.1 → 0 ≤ x ∧ x < N) ∧ y.1.Pairwise (· < ·) ∧ ∀ b, b < N → TabAt Q u y.1 y.2.1 y.2.2 b)) := by
        intro loose' c1 c2 c5 c3 c4
        refine Ok.inl ⟨hi', by simp, hD, hH, c1, c2, c5, fun b hb' => ?_, fun b hb' => hD1 b (by omega), fun p hp => hH1 p (by rw [Nat.add_mul, hB] at hp; omega)⟩
        by_cases e : b = i
        · subst e
          exact .inr ⟨hng, hD1 b (Nat.le_refl _), hHo, c4⟩
        · exact (hT b (by omega)).same rfl (c3 b (by omega)) (fun _ _ => rfl)
      refine Ok.bind (S := fun r => r.1 = true ↔ ∃ o, o < Q ∧ isPl (at_ u (B + o)) = true) ?_ fun y4 hy4 => ?_
      · unfold m64
        simp only [w1]
        refine Ok.bind (S := fun e => match e with
            | .inl _ => ∀ o, o < Q → isPl (at_ u (B + o)) = false
            | .inr v => v = true ∧ ∃ o, o < Q ∧ isPl (at_ u (B + o)) = true)
          (Ok.loop Q (fun j x => x = (j : Int) ∧ ∀ o, o < j → isPl (at_ u (B + o)) = false) ⟨rfl, fun o ho => by omega⟩ ?_) fun y hy => ?_
        · rintro j x hj ⟨rfl, g1⟩
          refine Ok.cond (fun hc => ?_) (fun hc => Ok.inr (fun o ho => g1 o (by omega)))
          have hj' : j < Q := by omega
          have w4 : IntKind.wrap .i64 ((B : Int) + (j : Int)) = ((B + j : Nat) : Int) := by rw [wrap64 (by omega) (by omega)]; simp
          simp only [w4, Int.toNat_natCast, m63_eq, Option.bind_some, wrap64 (n := (j : Int) + 1) (by omega) (by omega)]
          refine Ok.gd (by omega) (Ok.gd (by omega) ?_)
          refine Ok.condb (fun hp => Ok.inr ⟨rfl, j, hj', hp⟩) (fun hp => Ok.inl ⟨hj', by omega, fun o ho => ?_⟩)
          by_cases e : o = j
          · subst e; exact hp
          · exact g1 o (by omega)
        · refine Ok.elim (fun v e => ?_) (fun v e => ?_)
          · subst e
            exact Ok.some ⟨fun h => by simp at h, fun ⟨o, ho, hp⟩ => by rw [hy o ho] at hp; simp at hp⟩
          · subst e
            exact Ok.some ⟨fun _ => hy.2, fun _ => hy.1⟩
      · refine Ok.condb (fun h4 => ?_) (fun h4 => ?_)
        · refine Ok.gd (by simp; omega) (Ok.gd (by simp; omega) (fin _ (by simp; omega) (fun v hv => ?_) ?_ (fun b hb' => ?_) ?_))
          · rcases List.mem_append.1 hv with hv | hv
            · have := hlo v hv; omega
            · simp only [List.mem_singleton] at hv; omega
          · rw [List.pairwise_append]
            refine ⟨hpw, by simp, fun a ha z hz => ?_⟩
            simp only [List.mem_singleton] at hz
            have := hlo a ha
            omega
          · simp only [List.mem_append, List.mem_singleton]
            constructor
            · rintro (h | h)
              · exact h
              · omega
            · exact .inl
          · simp only [List.mem_append, List.mem_singleton, or_true, true_iff]
            rw [hB]; exact hy4.1 h4
        · refine fin loose (by omega) (fun v hv => by have := hlo v hv; omega) hpw (fun _ _ => Iff.rfl) ?_
          constructor
          · intro hv; have := hlo _ hv; omega
          · rintro ⟨o, ho, hp⟩
            rw [hB] at hp
            have := hy4.2 ⟨o, ho, hp⟩
            rw [h4] at this; simp at this
  · obtain ⟨loose, D, H⟩ := y
    obtain ⟨a1, a2, a3, a4, a6, a5⟩ := hy
    exact Ok.some ⟨D, H, loose, rfl, a1, a2, a3, a4, a6, a5⟩

theorem Good.uniq {Q b : Nat} {u : List (Int × Int)} {ph ph' : Int} (g : Good Q b u ph) (g' : Good Q b u ph') : ph = ph' := by
  obtain ⟨o, ho, hp⟩ := g.some
  have h1 := g.all o ho hp
  have h2 := g'.all o ho hp
  rw [h1] at h2
  exact congrArg Prod.fst h2

theorem list_same' {A : Type} {l m : List A} (z : A) (h : l.length = m.length) (k : ∀ i, i < l.length → l.getD i z = m.getD i z) : l = m := by
  apply List.ext_getElem?
  intro i
  by_cases hi : i < l.length
  · have := k i hi
    rw [List.getD_eq_getElem?_getD, List.getD_eq_getElem?_getD, List.getElem?_eq_getElem hi, List.getElem?_eq_getElem (by omega : i < m.length)] at this
    rw [List.getElem?_eq_getElem hi, List.getElem?_eq_getElem (by omega : i < m.length)]
    simpa using this
  · rw [List.getElem?_eq_none (by omega), List.getElem?_eq_none (by omega)]

theorem tab_same {Q N : Nat} {u : List (Int × Int)} (hQ : 0 < Q) {D D' l l' : List Int} {H H' : List Bool} (h1 : D.length = N) (h1' : D'.length = N) (h2 : H.length = N * Q) (h2' : H'.length = N * Q)
    (h3 : ∀ x : Int, x ∈ l → 0 ≤ x ∧ x < N) (h3' : ∀ x : Int, x ∈ l' → 0 ≤ x ∧ x < N) (h4 : l.Pairwise (· < ·)) (h4' : l'.Pairwise (· < ·)) (h5 : ∀ b, b < N → TabAt Q u l D H b) (h5' : ∀ b, b < N → TabAt Q u l' D' H' b) : D = D' ∧ H = H' ∧ l = l' := by
  have key : ∀ b, b < N → D.getD b (-1) = D'.getD b (-1) ∧ (∀ o, o < Q → H.getD (b * Q + o) false = H'.getD (b * Q + o) false) ∧ ((b : Int) ∈ l ↔ (b : Int) ∈ l') := fun b hb => by
    rcases h5 b hb with ⟨ph, g, e1, e2, e3⟩ | ⟨g, e1, e2, e3⟩
    · rcases h5' b hb with ⟨ph', g', e1', e2', e3'⟩ | ⟨g', _⟩
      · exact ⟨by rw [e1, e1', g.uniq g'], fun o ho => by rw [e3 o ho, e3' o ho], ⟨fun h => absurd h e2, fun h => absurd h e2'⟩⟩
      · exact absurd g (g' _)
    · rcases h5' b hb with ⟨ph', g', _⟩ | ⟨_, e1', e2', e3'⟩
      · exact absurd g' (g _)
      · exact ⟨by rw [e1, e1'], fun o ho => by rw [e2 o ho, e2' o ho], e3.trans e3'.symm⟩
  refine ⟨list_same' (-1) (by omega) fun i hi => (key i (by omega)).1, list_same' false (by omega) fun p hp => ?_, asc_eq h4 h4' fun x => ?_⟩
  · have hpe : p = (p / Q) * Q + p % Q := by rw [Nat.mul_comm]; exact (Nat.div_add_mod p Q).symm
    have hmod := Nat.mod_lt p hQ
    have hdiv : p / Q < N := Nat.div_lt_of_lt_mul (by rw [Nat.mul_comm]; omega)
    have := (key (p / Q) hdiv).2.1 (p % Q) hmod
    rwa [← hpe] at this
  · constructor
    · intro hx
      have := h3 x hx
      have k := (key x.toNat (by omega)).2.2
      rw [show ((x.toNat : Nat) : Int) = x by omega] at k
      exact k.1 hx
    · intro hx
      have := h3' x hx
      have k := (key x.toNat (by omega)).2.2
      rw [show ((x.toNat : Nat) : Int) = x by omega] at k
      exact k.2 hx
end Go.Proofs.Ytefekolpfklhdaa
end

section
/- ScanTables, with no program in sight. -/
namespace Go.Proofs.Ytefekolpfklhdaa
open Go Go.Proofs.AM

theorem m55_reflT (l : List Int) (h : l.length ≤ 1000000) : m55 (l, (l, ())) = some (true, ()) := by
  suffices H : Ok (m55 (l, (l, ()))) (fun r => r = (true, ())) by
    obtain ⟨r, e, rfl⟩ := H; exact e
  unfold m55
  refine Ok.ncond (fun h => absurd rfl h) (fun _ => ?_)
  refine Ok.bind (S := fun y => y = Sum.inl ()) (Ok.loop l.length (fun i x => x = (i : Int)) rfl ?_) fun y hy => ?_
  · rintro i x hi rfl
    refine Ok.cond (fun hc => ?_) (fun _ => Ok.inr rfl)
    simp only at hc ⊢
    rw [wrap64 (n := (i : Int) + 1) (by omega) (by omega)]
    refine Ok.gd (by omega) (Ok.gd (by omega) (Ok.gd (by omega) (Ok.gd (by omega) ?_)))
    exact Ok.ncond (fun h => by simp at h) (fun _ => Ok.inl ⟨by omega, by omega⟩)
  · subst hy
    exact Ok.some rfl

theorem m26_reflT (P L K : Int) (D : List Int) (H : List Bool) (S : Int × (Int × Int)) (hD : D.length ≤ 1000000) (hH : H.length ≤ 1000000) :
    m26 ((P, (L, (K, (D, (H, (S, [])))))), ((P, (L, (K, (D, (H, (S, [])))))), ())) = some (true, ()) := by
  suffices T : Ok (m26 ((P, (L, (K, (D, (H, (S, [])))))), ((P, (L, (K, (D, (H, (S, [])))))), ()))) (fun r => r = (true, ())) by
    obtain ⟨r, e, rfl⟩ := T; exact e
  unfold m26
  refine Ok.ncond (fun h => absurd rfl h) (fun _ => ?_)
  refine Ok.ncond (fun h => absurd rfl h) (fun _ => ?_)
  refine Ok.ncond (fun h => absurd rfl h) (fun _ => ?_)
  refine Ok.condb (fun h => by simp at h) (fun _ => ?_)
  refine Ok.bind (Ok.of (m55_reflT D hD) rfl) fun y1 h1 => ?_
  subst h1
  refine Ok.condb (fun h => by simp at h) (fun _ => ?_)
  refine Ok.ncond (fun h => absurd rfl h) (fun _ => ?_)
  refine Ok.ncond (fun h => absurd rfl h) (fun _ => ?_)
  refine Ok.bind (S := fun y => y = Sum.inl ()) (Ok.loop H.length (fun i x => x = (i : Int)) rfl ?_) fun y hy => ?_
  · rintro i x hi rfl
    refine Ok.cond (fun hc => ?_) (fun _ => Ok.inr rfl)
    simp only at hc ⊢
    rw [wrap64 (n := (i : Int) + 1) (by omega) (by omega)]
    refine Ok.gd (by omega) (Ok.gd (by omega) (Ok.gd (by omega) (Ok.gd (by omega) ?_)))
    refine Ok.condb (fun h => ?_) (fun _ => Ok.inl ⟨by omega, by omega⟩)
    cases hb : H.getD (Int.toNat (i : Int)) false <;> simp [hb] at h
  · subst hy
    refine Ok.bind (S := fun y => y = Sum.inl ()) (Ok.loop 0 (fun i x => x = (i : Int)) rfl ?_) fun y hy => ?_
    · rintro i x hi rfl
      refine Ok.cond (fun hc => ?_) (fun _ => Ok.inr rfl)
      simp at hc; omega
    · subst hy
      exact Ok.some rfl

theorem m35_reflT (l : List Int) (h : l.length ≤ 1000000) : m35 (l, (l, ())) = some (true, ()) := by
  suffices H : Ok (m35 (l, (l, ()))) (fun r => r = (true, ())) by
    obtain ⟨r, e, rfl⟩ := H; exact e
  unfold m35
  refine Ok.ncond (fun h => absurd rfl h) (fun _ => ?_)
  refine Ok.bind (S := fun y => y = Sum.inl ()) (Ok.loop l.length (fun i x => x = (i : Int)) rfl ?_) fun y hy => ?_
  · rintro i x hi rfl
    refine Ok.cond (fun hc => ?_) (fun _ => Ok.inr rfl)
    simp only at hc ⊢
    rw [wrap64 (n := (i : Int) + 1) (by omega) (by omega)]
    refine Ok.gd (by omega) (Ok.gd (by omega) (Ok.gd (by omega) (Ok.gd (by omega) ?_)))
    exact Ok.ncond (fun h => by simp at h) (fun _ => Ok.inl ⟨by omega, by omega⟩)
  · subst hy
    exact Ok.some rfl


theorem m32_no (P b : Int) (u : List (Int × Int)) (hu : u.length ≤ 1000000) (h : ¬ (4 ≤ P ∧ P ≤ 32 ∧ Int.tmod (u.length : Int) P = 0 ∧ 0 ≤ b ∧ b < Int.tdiv (u.length : Int) P)) : Ok (m32 (P, (u, (b, ())))) (fun r => r = (0, (false, ()))) := by
  unfold m32
  refine Ok.bind (Ok.of (m48_eq _ _ _) rfl) fun y1 h1 => ?_
  subst h1
  refine Ok.condb (fun _ => Ok.some rfl) (fun q1 => ?_)
  have q1 : 4 ≤ P ∧ P ≤ 32 := by simpa using q1
  refine Ok.ite (fun h => by simp only at h; omega) (fun _ => ?_)
  refine Ok.ncond (fun _ => Ok.some rfl) (fun q2 => ?_)
  refine Ok.ite (fun h => by simp only at h; omega) (fun _ => ?_)
  have hd : 0 ≤ Int.tdiv (u.length : Int) P ∧ Int.tdiv (u.length : Int) P ≤ u.length := by
    rw [Int.tdiv_eq_ediv_of_nonneg (by omega)]
    exact ⟨Int.ediv_nonneg (by omega) (by omega), Int.ediv_le_self _ (by omega)⟩
  refine Ok.bind (Ok.of (m48_eq _ _ _) rfl) fun y2 h2 => ?_
  subst h2
  refine Ok.condb (fun _ => Ok.some rfl) (fun q3 => ?_)
  exfalso
  simp only [wrap64 (n := Int.tdiv (u.length : Int) P) (by omega) (by omega), wrap64 (n := Int.tdiv (u.length : Int) P - 1) (by omega) (by omega)] at q3
  have q3 : 0 ≤ b ∧ b ≤ Int.tdiv (u.length : Int) P - 1 := by simpa using q3
  simp only at q2
  exact h ⟨q1.1, q1.2, q2, q3.1, by omega⟩

theorem m33_no (P b : Int) (u : List (Int × Int)) (hu : u.length ≤ 1000000) (h : ¬ (4 ≤ P ∧ P ≤ 32 ∧ Int.tmod (u.length : Int) P = 0 ∧ 0 ≤ b ∧ b < Int.tdiv (u.length : Int) P)) : Ok (m33 (P, (u, (b, ())))) (fun r => r = (0, (false, ()))) := by
  unfold m33
  refine Ok.cond (fun _ => Ok.some rfl) (fun a1 => ?_)
  refine Ok.cond (fun _ => Ok.some rfl) (fun a2 => ?_)
  simp only at a1 a2
  refine Ok.ite (fun h => by simp only at h; omega) (fun _ => ?_)
  refine Ok.ncond (fun _ => Ok.some rfl) (fun q2 => ?_)
  refine Ok.cond (fun _ => Ok.some rfl) (fun q3 => ?_)
  refine Ok.ite (fun h => by simp only at h; omega) (fun _ => ?_)
  have hd : 0 ≤ Int.tdiv (u.length : Int) P ∧ Int.tdiv (u.length : Int) P ≤ u.length := by
    rw [Int.tdiv_eq_ediv_of_nonneg (by omega)]
    exact ⟨Int.ediv_nonneg (by omega) (by omega), Int.ediv_le_self _ (by omega)⟩
  refine Ok.cond (fun _ => Ok.some rfl) (fun q4 => ?_)
  exfalso
  simp only [wrap64 (n := Int.tdiv (u.length : Int) P) (by omega) (by omega)] at q4
  simp only at q2 q3
  exact h ⟨by omega, by omega, q2, by omega, by omega⟩

theorem settle_same (P b : Int) (u : List (Int × Int)) (hu : u.length ≤ 400) : ∃ (n : Int) (s : Bool), m32 (P, (u, (b, ()))) = some (n, (s, ())) ∧ m33 (P, (u, (b, ()))) = some (n, (s, ())) := by
  by_cases h : 4 ≤ P ∧ P ≤ 32 ∧ Int.tmod (u.length : Int) P = 0 ∧ 0 ≤ b ∧ b < Int.tdiv (u.length : Int) P
  · obtain ⟨h1, h2, h3, h4, h5⟩ := h
    obtain ⟨Q, rfl⟩ : ∃ Q : Nat, P = Q := ⟨P.toNat, by omega⟩
    obtain ⟨c, rfl⟩ : ∃ c : Nat, b = c := ⟨b.toNat, by omega⟩
    have e3 : u.length % Q = 0 := by
      rw [Int.tmod_eq_emod_of_nonneg (by omega)] at h3
      exact_mod_cast h3
    have e5 : c < u.length / Q := by
      rw [Int.tdiv_eq_ediv_of_nonneg (by omega)] at h5
      exact_mod_cast h5
    have hul : u.length = (u.length / Q) * Q := by
      have := Nat.div_add_mod u.length Q
      rw [e3, Nat.mul_comm] at this; omega
    have hN : u.length / Q ≤ 256 := by
      have : u.length / Q ≤ u.length / 4 := Nat.div_le_div_left (by omega) (by omega)
      omega
    obtain ⟨⟨n1, s1, ⟨⟩⟩, e1, f1, g1⟩ := m32_ok' Q (u.length / Q) c u (by omega) hN e5 hul
    obtain ⟨⟨n2, s2, ⟨⟩⟩, e2, f2, g2⟩ := m33_ok' Q (u.length / Q) c u (by omega) hN e5 hul
    simp only at f1 g1 f2 g2
    refine ⟨n1, s1, e1, ?_⟩
    rw [e2]
    cases s1 with
    | true =>
      cases s2 with
      | true => rw [(f1 rfl).uniq (f2 rfl)]
      | false => exact absurd (f1 rfl) ((g2 rfl).2 _)
    | false =>
      cases s2 with
      | true => exact absurd (f2 rfl) ((g1 rfl).2 _)
      | false => rw [(g1 rfl).1, (g2 rfl).1]
  · obtain ⟨r, e1, rfl⟩ := m32_no P b u (by omega) h
    obtain ⟨r, e2, rfl⟩ := m33_no P b u (by omega) h
    exact ⟨0, false, e1, e2⟩

abbrev zeroT : Tab := (0, (0, (0, ([], ([], ((0, (0, 0)), []))))))

theorem m38_noT {P L K : Int} (h : ¬ shape P L K) : Ok (m38 (P, (L, (K, ())))) (fun r => r.2.1 = 1) := by
  unfold m38
  refine Ok.cond (fun _ => Ok.some rfl) (fun h1 => ?_)
  refine Ok.cond (fun _ => Ok.some rfl) (fun h2 => ?_)
  refine Ok.cond (fun _ => Ok.some rfl) (fun h3 => ?_)
  refine Ok.cond (fun _ => Ok.some rfl) (fun h4 => ?_)
  refine Ok.cond (fun _ => Ok.some rfl) (fun h5 => ?_)
  refine Ok.cond (fun _ => Ok.some rfl) (fun h6 => ?_)
  simp only at h1 h2 h3 h4 h5 h6
  exact absurd ⟨by omega, by omega, by omega, by omega, by omega, by omega⟩ h

theorem m43_noT {P L K : Int} (h : ¬ shape P L K) : Ok (m43 (P, (L, (K, ())))) (fun r => r.2.1 = 1) := by
  unfold m43
  refine Ok.cond (fun _ => Ok.some rfl) (fun h1 => ?_)
  refine Ok.cond (fun _ => Ok.some rfl) (fun h2 => ?_)
  refine Ok.cond (fun _ => Ok.some rfl) (fun h3 => ?_)
  refine Ok.cond (fun _ => Ok.some rfl) (fun h4 => ?_)
  refine Ok.cond (fun _ => Ok.some rfl) (fun h5 => ?_)
  refine Ok.cond (fun _ => Ok.some rfl) (fun h6 => ?_)
  simp only at h1 h2 h3 h4 h5 h6
  exact absurd ⟨by omega, by omega, by omega, by omega, by omega, by omega⟩ h

theorem m25_noT (P L K : Int) (u : List (Int × Int)) (h : ¬ (shape P L K ∧ (u.length : Int) = L * P)) : Ok (m25 (P, (L, (K, (u, ()))))) (fun r => r = (zeroT, ([], (1, ())))) := by
  by_cases hs : shape P L K
  · have hm := shape_mul hs
    obtain ⟨Q, rfl⟩ : ∃ Q : Nat, P = Q := ⟨P.toNat, by have := hs.1; omega⟩
    obtain ⟨N, rfl⟩ : ∃ N : Nat, L = N := ⟨L.toNat, by have := hs.2.2.1; omega⟩
    unfold m25
    simp only [m38_shape hs, Option.bind_some]
    refine Ok.ncond (fun h => absurd trivial h) (fun _ => ?_)
    rw [wrap64 (n := (N : Int) * Q) (by omega) (by omega)]
    exact Ok.ncond (fun _ => Ok.some rfl) (fun q => absurd ⟨hs, q⟩ h)
  · unfold m25
    refine Ok.bind (m38_noT hs) fun y1 h1 => ?_
    refine Ok.ncond (fun _ => Ok.some ?_) (fun q => by rw [h1] at q; simp at q)
    rw [h1]

theorem m34_noT (P L K : Int) (u : List (Int × Int)) (h : ¬ (shape P L K ∧ (u.length : Int) = L * P)) : Ok (m34 (P, (L, (K, (u, ()))))) (fun r => r = (zeroT, ([], (1, ())))) := by
  by_cases hs : shape P L K
  · have hm := shape_mul hs
    obtain ⟨Q, rfl⟩ : ∃ Q : Nat, P = Q := ⟨P.toNat, by have := hs.1; omega⟩
    obtain ⟨N, rfl⟩ : ∃ N : Nat, L = N := ⟨L.toNat, by have := hs.2.2.1; omega⟩
    unfold m34
    simp only [m43_eq hs, Option.bind_some]
    refine Ok.ncond (fun h => absurd trivial h) (fun _ => ?_)
    rw [wrap64 (n := (N : Int) * Q) (by omega) (by omega)]
    exact Ok.ncond (fun _ => Ok.some rfl) (fun q => absurd ⟨hs, q⟩ h)
  · unfold m34
    refine Ok.bind (m43_noT hs) fun y1 h1 => ?_
    refine Ok.ncond (fun _ => Ok.some ?_) (fun q => by rw [h1] at q; simp at q)
    rw [h1]

theorem table_same (P L K : Int) (u : List (Int × Int)) : ∃ (P' L' K' : Int) (D : List Int) (H : List Bool) (S : Int × (Int × Int)) (l : List Int) (e : Int), D.length ≤ 1000000 ∧ H.length ≤ 1000000 ∧ l.length ≤ 1000000 ∧
    m25 (P, (L, (K, (u, ())))) = some ((P', (L', (K', (D, (H, (S, [])))))), (l, (e, ()))) ∧ m34 (P, (L, (K, (u, ())))) = some ((P', (L', (K', (D, (H, (S, [])))))), (l, (e, ()))) := by
  by_cases h : shape P L K ∧ (u.length : Int) = L * P
  · obtain ⟨hs, hu⟩ := h
    have hm := shape_mul hs
    obtain ⟨Q, rfl⟩ : ∃ Q : Nat, P = Q := ⟨P.toNat, by have := hs.1; omega⟩
    obtain ⟨N, rfl⟩ : ∃ N : Nat, L = N := ⟨L.toNat, by have := hs.2.2.1; omega⟩
    have hNQ : ((N * Q : Nat) : Int) = (N : Int) * (Q : Int) := by simp
    have hul : u.length = N * Q := by omega
    obtain ⟨r, e1, D, H, l, rfl, a1, a2, a3, a4, a5, a6⟩ := m25_ok' Q N K u hs hul
    obtain ⟨r, e2, D', H', l', rfl, b1, b2, b3, b4, b5, b6⟩ := m34_ok Q N K u hs hul
    have hQ : 0 < Q := by have := hs.1; omega
    have hN : N ≤ 256 := by have := hs.2.2.2.1; omega
    obtain ⟨rfl, rfl, rfl⟩ := tab_same hQ a1 b1 a2 b2 a4 b4 a5 b5 a6 b6
    exact ⟨_, _, _, D, H, _, l, 0, by omega, by omega, by omega, e1, e2⟩
  · obtain ⟨r, e1, rfl⟩ := m25_noT P L K u h
    obtain ⟨r, e2, rfl⟩ := m34_noT P L K u h
    exact ⟨0, 0, 0, [], [], (0, (0, 0)), [], 1, by simp, by simp, by simp, e1, e2⟩

theorem m12_okT (P L K : Int) (l : List Ent) (u : List (Int × Int)) : Ok (m12 ((P, (L, (K, (l, u)))), ())) (fun r => r.1 = true → u.length ≤ 400) := by
  unfold m12
  refine Ok.cond (fun _ => ?_) (fun _ => Ok.some fun h => by simp at h)
  refine Ok.cond (fun h1 => ?_) (fun _ => Ok.some fun h => by simp at h)
  simp only at h1
  exact Ok.cond (fun _ => Ok.some fun _ => by omega) (fun _ => Ok.some fun _ => by omega)

theorem tables (P L K : Int) (l : List Ent) (u : List (Int × Int)) (b : Int) : Ok (m10 ((P, (L, (K, (l, u)))), (b, ()))) (fun r => r = (true, ())) := by
  unfold m10
  refine Ok.bind (Ok.of m11_eq rfl) fun y1 h1 => ?_
  subst h1
  refine Ok.condb (fun h => by simp at h) (fun _ => ?_)
  refine Ok.bind (m12_okT P L K l u) fun y2 h2 => ?_
  refine Ok.condb (fun _ => Ok.some rfl) (fun q2 => ?_)
  have hu := h2 (by simpa using q2)
  obtain ⟨n, s, e1, e2⟩ := settle_same P b u hu
  obtain ⟨P', L', K', D, H, S, lo, e, c1, c2, c3, e3, e4⟩ := table_same P L K u
  refine Ok.bind (Ok.of e1 rfl) fun y3 h3 => ?_
  subst h3
  refine Ok.bind (Ok.of e2 rfl) fun y4 h4 => ?_
  subst h4
  refine Ok.bind (Ok.of e3 rfl) fun y5 h5 => ?_
  subst h5
  refine Ok.bind (Ok.of e4 rfl) fun y6 h6 => ?_
  subst h6
  refine Ok.cond (fun _ => ?_) (fun h => absurd rfl h)
  refine Ok.condb (fun _ => ?_) (fun h => by cases s <;> simp at h)
  refine Ok.bind (Ok.of (m26_reflT P' L' K' D H S c1 c2) rfl) fun y7 h7 => ?_
  subst h7
  refine Ok.condb (fun _ => ?_) (fun h => by simp at h)
  refine Ok.bind (Ok.of (m35_reflT lo c3) rfl) fun y8 h8 => ?_
  subst h8
  refine Ok.condb (fun _ => ?_) (fun h => by simp at h)
  refine Ok.cond (fun _ => ?_) (fun h => absurd rfl h)
  refine Ok.bind (m36_ok u (by omega)) fun y9 h9 => ?_
  refine Ok.bind (m37_ok u (by omega)) fun y10 h10 => ?_
  obtain ⟨z, ⟨⟩⟩ := y9
  obtain ⟨z', ⟨⟩⟩ := y10
  obtain ⟨⟨d1, d2⟩, d3⟩ := h9
  obtain ⟨⟨f1, f2⟩, f3⟩ := h10
  simp only at d1 d2 d3 f1 f2 f3
  have hz : z = z' := asc_eq d1 f1 fun x => (d2 x).trans (f2 x).symm
  subst hz
  refine Ok.bind (Ok.of (m35_reflT z d3) rfl) fun y11 h11 => ?_
  subst h11
  exact Ok.some rfl

theorem ScanTables_pure : ∀ x : AM.PDen [(true, (.pair (.int .i64) (.pair (.int .i64) (.pair (.int .i64) (.pair (.sl (.pair (.pair (.int .i64) (.int .i64)) (.pair (.int .i64) (.pair (.int .i64) (.pair (.int .i64) (.int .i64)))))) (.sl (.pair (.int .i64) (.int .i64)))))))), (false, (.int .i64))], AM.PWf _ x → m10 x = some (true, ()) := by
  rintro ⟨⟨P, L, K, l, u⟩, b, ⟨⟩⟩ _
  obtain ⟨r, e, rfl⟩ := tables P L K l u b
  exact e
end Go.Proofs.Ytefekolpfklhdaa
end
