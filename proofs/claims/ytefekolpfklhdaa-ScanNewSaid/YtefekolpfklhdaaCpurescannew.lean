/- Each page's best place has the number of its newest copy: the plain law of ScanNew. -/
import Derived.Test.YtefekolpfklhdaaFnScanNew
import Derived.Test.YtefekolpfklhdaaCpscan2
set_option maxRecDepth 2000
set_option linter.unusedVariables false
set_option linter.unusedSimpArgs false
namespace Go.Proofs.Ytefekolpfklhdaa
open Go Go.Proofs.AM

abbrev z2 : Ent := ((0, 0), (0, (0, (0, 0))))
abbrev kS : Bool × K := (true, (.pair (.int .i64) (.pair (.int .i64) (.int .i64))))

theorem kS_beq (x y : kS.2.den) : kS.2.beq x y = true ↔ x = y := by
  obtain ⟨a, b, c⟩ := x
  obtain ⟨a', b', c'⟩ := y
  show ((a == a') && ((b == b') && (c == c'))) = true ↔ _
  simp

/-- The greatest number with which a page was found at a place. -/
def numb (P p : Int) (at_ : Int × Int) (l : List Ent) : Int := l.foldl (fun n e => if okE P e = true ∧ e.2.2.1 = p ∧ e.1 = at_ then (if e.2.2.2.1 > n then e.2.2.2.1 else n) else n) 0

theorem numb_snoc (P p : Int) (a : Int × Int) (l : List Ent) (e : Ent) : numb P p a (l ++ [e]) = if okE P e = true ∧ e.2.2.1 = p ∧ e.1 = a then (if e.2.2.2.1 > numb P p a l then e.2.2.2.1 else numb P p a l) else numb P p a l := by
  simp [numb, List.foldl_append]

def inAt (P : Int) (a : Int × Int) : Prop := 0 ≤ a.1 ∧ a.1 < 256 ∧ 0 ≤ a.2 ∧ a.2 < P

theorem m22_eq (P L s : Int) (l : List Ent) (pl : List (Int × Int)) (p : Int) (a : Int × Int) (hl : l.length ≤ 1000000) (ha : inAt P a) : m22 ((P, (L, (s, (l, pl)))), (p, (a, ()))) = some (numb P p a l, ()) := by
  unfold m22
  rw [loop_idx' l.length (fun i => (numb P p a (l.take i), (i : Int))) ?_ ?_ (e := numb P p a l) ?_]
  · rfl
  · rfl
  · intro i hi
    simp only [Bool.cond_eq_ite, decide_eq_true_eq]
    rw [if_pos (by omega), gd_pos (by omega), gd_pos (by omega), m18_eq]
    rw [take_snoc l i hi ((0, 0), (0, (0, (0, 0)))), numb_snoc]
    simp only [Int.toNat_natCast, Option.bind_some, wrap64 (n := (i : Int) + 1) (by omega) (by omega)]
    obtain ⟨e, he⟩ : ∃ e, l.getD i ((0, 0), (0, (0, (0, 0)))) = e := ⟨_, rfl⟩
    simp only [he]
    by_cases hok : okE P e = true ∧ e.2.2.1 = p ∧ e.1 = a
    · rw [if_pos hok]
      obtain ⟨h1, h2, h3⟩ := hok
      simp only [okE, Bool.and_eq_true, decide_eq_true_eq] at h1
      rw [h1.1]
      simp [h1.2.1, h2, h3]
    · rw [if_neg hok]
      cases hc : chk e.2
      · simp
      · by_cases h1 : e.2.1 = 3
        · simp [h1]
        · by_cases h2 : e.2.2.1 = p
          · by_cases h3 : e.1 = a
            · exfalso
              refine hok ⟨?_, h2, h3⟩
              simp only [okE, hc, Bool.true_and, decide_eq_true_eq]
              obtain ⟨a1, a2, a3, a4⟩ := ha
              rw [h3]
              exact ⟨h1, a1, a2, a3, a4⟩
            · have h3' : ¬ (e.1.1 = a.1 ∧ e.1.2 = a.2) := fun h => h3 (Prod.ext h.1 h.2)
              simp [h1, h2, h3']
          · simp [h1, h2]
  · simp only [List.take_length, Bool.cond_eq_ite, decide_eq_true_eq]
    rw [if_neg (by omega)]

def isPl (a : Int × Int) : Bool := decide (0 ≤ a.1 ∧ a.1 ≤ 255) && decide (0 ≤ a.2 ∧ a.2 ≤ 31)
theorem m50_eq (a : Int × Int) : m50 (a, ()) = some (isPl a, ()) := by
  unfold m50 isPl
  simp only [m48_eq, Option.bind_some]
  cases decide (0 ≤ a.1 ∧ a.1 ≤ 255) <;> rfl

theorem m47_eq (l : List (Int × Int)) (h : l.length ≤ 1000000) : m47 (l, ()) = some l := by
  unfold m47
  simp only [Bool.cond_eq_ite, decide_eq_true_eq]
  rw [gd_pos (by simp; omega), gd_pos (by simp; omega)]
  by_cases h0 : ((l.length : Nat) : Int) = 0
  · rw [if_pos h0]
    obtain rfl : l = [] := List.length_eq_zero_iff.1 (by omega)
    simp [both]
  · rw [if_neg h0]
    simp [both]

/-- What is best, of what is newest. -/
def Better (P : Int) (l : List Ent) (u v : List (Int × Int)) : Prop :=
  v.length = u.length ∧ ∀ p : Nat, p < u.length → v.getD p (0, 0) = u.getD p (0, 0) ∨ (isPl (u.getD p (0, 0)) = true ∧ inAt P (v.getD p (0, 0)) ∧ numb P p (v.getD p (0, 0)) l = numb P p (u.getD p (0, 0)) l)

def Nums (P : Int) (l : List Ent) (m : List (kS.2.den × Int)) : Prop := ∀ (p : Int) (a : Int × Int), mget kS m (p, a) (0 : Int) = numb P p a l

theorem nums_step {P : Int} {l : List Ent} {m : List (kS.2.den × Int)} (e : Ent) (h : Nums P l m) (hok : okE P e = true) :
    Nums P (l ++ [e]) (mset kS m (e.2.2.1, e.1) (if e.2.2.2.1 > (mget kS m (e.2.2.1, e.1) (0 : Int)) then e.2.2.2.1 else (mget kS m (e.2.2.1, e.1) (0 : Int)))) := by
  intro p a
  rw [mget_mset kS_beq, numb_snoc, h, h]
  by_cases hc : e.2.2.1 = p ∧ e.1 = a
  · obtain ⟨rfl, rfl⟩ := hc
    simp [hok]
  · have h1 : ¬ (okE P e = true ∧ e.2.2.1 = p ∧ e.1 = a) := fun h => hc ⟨h.2.1, h.2.2⟩
    have h2 : ¬ (((p, a) : kS.2.den) = (e.2.2.1, e.1)) := fun h => hc ⟨(Prod.mk.inj h).1.symm, (Prod.mk.inj h).2.symm⟩
    rw [if_neg h1, if_neg h2]

theorem nums_skip {P : Int} {l : List Ent} {m : List (kS.2.den × Int)} (e : Ent) (h : Nums P l m) (hok : ¬ okE P e = true) : Nums P (l ++ [e]) m := by
  intro p a
  rw [numb_snoc, if_neg (fun h => hok h.1), h]

theorem m21_ok (P : Int) (u : List (Int × Int)) (l : List Ent) (hu : u.length ≤ 1000000) (hl : l.length ≤ 1000000) : Ok (m21 (P, (u, (l, ())))) (fun r => Better P l u r.1) := by
  have refl : Better P l u u := ⟨rfl, fun p _ => .inl rfl⟩
  unfold m21
  rw [m47_eq u hu, m48_eq]
  simp only [Option.bind_some]
  refine Ok.condb (fun _ => Ok.some refl) (fun h => ?_)
  have hP : 4 ≤ P ∧ P ≤ 32 := by simpa using h
  refine Ok.bind (S := Nums P l) (Ok.loop l.length (fun i x => x.1 = i ∧ Nums P (l.take i) x.2) ⟨rfl, fun p a => rfl⟩ ?_) fun m hm => ?_
  · rintro i ⟨j, m⟩ hi ⟨rfl, hm⟩
    simp only at hm ⊢
    refine Ok.cond (fun hc => ?_) (fun hc => ?_)
    · refine Ok.gd (by omega) (Ok.gd (by omega) ?_)
      rw [m68_eq hP.1 hP.2, wrap64 (n := (i : Int) + 1) (by omega) (by omega)]
      simp only [Option.bind_some, Int.toNat_natCast]
      have hts := take_snoc l i (by omega) ((0, 0), (0, (0, (0, 0))))
      obtain ⟨e, he⟩ : ∃ e, l.getD i ((0, 0), (0, (0, (0, 0)))) = e := ⟨_, rfl⟩
      rw [he] at hts
      simp only [he]
      refine Ok.condb (fun h => ?_) (fun h => ?_)
      · exact Ok.inl ⟨by omega, by simp, by rw [hts]; exact nums_step e hm h⟩
      · exact Ok.inl ⟨by omega, by simp, by rw [hts]; exact nums_skip e hm (by simp [h])⟩
    · obtain rfl : i = l.length := by omega
      rw [List.take_length] at hm
      exact Ok.inr hm
  obtain ⟨Pn, rfl⟩ : ∃ Pn : Nat, P = Pn := ⟨P.toNat, by omega⟩
  refine Ok.ite (fun h => by omega) (fun _ => ?_)
  obtain ⟨nb, hnb⟩ : ∃ nb : Nat, Int.tdiv ((u.length : Nat) : Int) (Pn : Int) = nb := ⟨u.length / Pn, by rw [Int.tdiv_eq_ediv_of_nonneg (by omega)]; rfl⟩
  have hnb2 : nb = u.length / Pn := by
    have : Int.tdiv ((u.length : Nat) : Int) (Pn : Int) = ((u.length / Pn : Nat) : Int) := by rw [Int.tdiv_eq_ediv_of_nonneg (by omega)]; rfl
    omega
  have hnb3 : nb * Pn ≤ u.length := hnb2 ▸ Nat.div_mul_le_self _ _
  have hnb4 : nb ≤ u.length := hnb2 ▸ Nat.div_le_self _ _
  rw [hnb, wrap64 (n := (nb : Int)) (by omega) (by omega)]
  refine Ok.bind (S := fun v => Better Pn l u v) (Ok.loop nb (fun b x => x.1 = b ∧ Better Pn l u x.2) ⟨rfl, refl⟩ ?_) fun v hv => Ok.some hv
  rintro b ⟨b', v⟩ hb ⟨rfl, hv⟩
  simp only at hv ⊢
  refine Ok.cond (fun hc => ?_) (fun hc => Ok.inr hv)
  have hb2 : b + 1 ≤ nb := by omega
  have hhi : b * Pn + Pn ≤ u.length := by
    have := Nat.mul_le_mul_right Pn hb2
    rw [Nat.add_mul, Nat.one_mul] at this; omega
  have w1 : IntKind.wrap .i64 ((b : Int) * (Pn : Int)) = ((b * Pn : Nat) : Int) := by rw [← Int.natCast_mul]; exact wrap64 (by omega) (by omega)
  have w2 : IntKind.wrap .i64 ((b : Int) + 1) = ((b + 1 : Nat) : Int) := by rw [wrap64 (by omega) (by omega)]; rfl
  have w3 : IntKind.wrap .i64 (((b + 1 : Nat) : Int) * (Pn : Int)) = ((b * Pn + Pn : Nat) : Int) := by
    rw [← Int.natCast_mul, Nat.add_mul, Nat.one_mul]; exact wrap64 (by omega) (by omega)
  simp only [w1, w2, w3, Int.toNat_natCast, Nat.add_sub_cancel_left]
  generalize hlo : b * Pn = lo at *
  have hS : (List.take Pn (List.drop lo u)).length = Pn := by simp; omega
  have hSg : ∀ o, o < Pn → (List.take Pn (List.drop lo u)).getD o (0, 0) = u.getD (lo + o) (0, 0) := fun o ho => by
    simp [List.getD_eq_getElem?_getD, List.getElem?_take, ho, List.getElem?_drop]
  generalize hSe : List.take Pn (List.drop lo u) = S at *
  refine Ok.gd (by omega) (Ok.gd (by omega) (Ok.gd (by omega) ?_))
  refine Ok.bind (S := fun _ => True) (Ok.loop Pn (fun i x => x = (i : Int)) rfl ?_) fun y5 _ => ?_
  · rintro i x hi rfl
    refine Ok.cond (fun hc => ?_) (fun hc => Ok.inr trivial)
    refine Ok.gd (by omega) (Ok.gd (by omega) ?_)
    rw [m50_eq, wrap64 (n := (i : Int) + 1) (by omega) (by omega)]
    simp only [Option.bind_some]
    exact Ok.condb (fun _ => Ok.inr trivial) (fun _ => Ok.inl ⟨by omega, rfl⟩)
  have good : ∀ (ph : Int), 0 ≤ ph → ph < 256 → ∀ v, Better Pn l u v → ∀ o : Nat, o < Pn → isPl (u.getD (lo + o) (0, 0)) = true →
      numb Pn ((lo + o : Nat) : Int) (ph, (o : Int)) l = numb Pn ((lo + o : Nat) : Int) (u.getD (lo + o) (0, 0)) l → Better Pn l u (List.set v (lo + o) (ph, (o : Int))) := by
    intro ph p1 p2 v hv o ho hpl hn
    refine ⟨by simp [hv.1], fun q hq => ?_⟩
    by_cases hqe : lo + o = q
    · subst hqe
      have hs : (List.set v (lo + o) (ph, (o : Int))).getD (lo + o) (0, 0) = (ph, (o : Int)) := by
        simp [List.getD_eq_getElem?_getD, List.getElem?_set, hv.1, hq]
      rw [hs]
      exact .inr ⟨hpl, ⟨p1, p2, by simp only; omega, by simp only; omega⟩, hn⟩
    · have hs : (List.set v (lo + o) (ph, (o : Int))).getD q (0, 0) = v.getD q (0, 0) := by
        simp [List.getD_eq_getElem?_getD, List.getElem?_set, hqe]
      rw [hs]; exact hv.2 q hq
  refine Ok.elim (fun _ _ => ?_) (fun y6 _ => ?_)
  all_goals
    refine Ok.bind (S := fun s => ∀ ph, s = Sum.inr (ph, true) → 0 ≤ ph ∧ ph < 256 ∧ ∀ o : Nat, o < Pn → isPl (u.getD (lo + o) (0, 0)) = true → numb Pn ((lo + o : Nat) : Int) (ph, (o : Int)) l = numb Pn ((lo + o : Nat) : Int) (u.getD (lo + o) (0, 0)) l)
      (Ok.loop 256 (fun i x => x = (i : Int)) rfl ?_) fun y7 h7 => ?_
    · rintro i x hi rfl
      refine Ok.cond (fun _ => ?_) (fun _ => Ok.inr fun ph h => by cases h)
      refine Ok.cond (fun hc => ?_) (fun _ => Ok.inr fun ph h => by cases h)
      refine Ok.gd (by omega) (Ok.gd (by omega) (Ok.gd (by omega) ?_))
      refine Ok.bind (S := fun y => y = true → ∀ o : Nat, o < Pn → isPl (u.getD (lo + o) (0, 0)) = true → numb Pn ((lo + o : Nat) : Int) ((i : Int), (o : Int)) l = numb Pn ((lo + o : Nat) : Int) (u.getD (lo + o) (0, 0)) l)
        (Ok.loop Pn (fun j x => x.1 = true ∧ x.2 = (j : Int) ∧ ∀ o : Nat, o < j → isPl (u.getD (lo + o) (0, 0)) = true → numb Pn ((lo + o : Nat) : Int) ((i : Int), (o : Int)) l = numb Pn ((lo + o : Nat) : Int) (u.getD (lo + o) (0, 0)) l) ⟨rfl, rfl, fun o h => by omega⟩ ?_) fun y8 h8 => ?_
      · rintro j ⟨t, x⟩ hj ⟨rfl, rfl, hq⟩
        simp only
        refine Ok.cond (fun hc => ?_) (fun hc => Ok.inr fun _ o ho => hq o (by omega))
        refine Ok.gd (by omega) (Ok.gd (by omega) ?_)
        rw [m50_eq, wrap64 (n := (j : Int) + 1) (by omega) (by omega), wrap64 (n := ((lo : Nat) : Int) + (j : Int)) (by omega) (by omega), Int.toNat_natCast, hSg j (by omega)]
        simp only [Option.bind_some]
        rw [hm, hm, ← Int.natCast_add]
        refine Ok.condb (fun hpl => ?_) (fun hpl => Ok.inl ⟨by omega, rfl, rfl, fun o ho h => ?_⟩)
        · refine Ok.cond (fun _ => Ok.inr fun h => by cases h) (fun _ => ?_)
          refine Ok.ncond (fun _ => Ok.inr fun h => by cases h) (fun he => Ok.inl ⟨by omega, rfl, rfl, fun o ho h => ?_⟩)
          by_cases hoj : o = j
          · subst hoj; exact he
          · exact hq o (by omega) h
        · by_cases hoj : o = j
          · subst hoj; rw [h] at hpl; cases hpl
          · exact hq o (by omega) h
      · rw [wrap64 (n := (i : Int) + 1) (by omega) (by omega)]
        refine Ok.condb (fun h => Ok.inr fun ph e => ?_) (fun _ => Ok.inl ⟨by omega, rfl⟩)
        simp only [Sum.inr.injEq, Prod.mk.injEq, and_true] at e
        subst e
        exact ⟨by omega, by omega, h8 h⟩
    · refine Ok.elim (fun _ _ => ?_) (fun y8 e8 => ?_)
      · refine Ok.bind (S := fun v => Better Pn l u v) (Ok.loop Pn (fun i x => x.1 = (i : Int) ∧ Better Pn l u x.2) ⟨rfl, hv⟩ ?_) fun v hv => Ok.inl ⟨by omega, rfl, hv⟩
        rintro i ⟨x, v⟩ hi ⟨rfl, hv⟩
        simp only at hv ⊢
        rw [wrap64 (n := (i : Int) + 1) (by omega) (by omega)]
        exact Ok.cond (fun hc => Ok.inl ⟨by omega, rfl, hv⟩) (fun _ => Ok.inr hv)
      · refine Ok.bind (S := fun v => Better Pn l u v) (Ok.loop Pn (fun i x => x.1 = (i : Int) ∧ Better Pn l u x.2) ⟨rfl, hv⟩ ?_) fun v hv => Ok.inl ⟨by omega, rfl, hv⟩
        rintro i ⟨x, v⟩ hi ⟨rfl, hv⟩
        simp only at hv ⊢
        refine Ok.cond (fun hc => ?_) (fun _ => Ok.inr hv)
        rw [wrap64 (n := (i : Int) + 1) (by omega) (by omega), wrap64 (n := ((lo : Nat) : Int) + (i : Int)) (by omega) (by omega), ← Int.natCast_add, Int.toNat_natCast, m50_eq]
        have hvl := hv.1
        refine Ok.condb (fun h8 => ?_) (fun _ => Ok.inl ⟨by omega, rfl, hv⟩)
        refine Ok.gd (by omega) (Ok.gd (by omega) ?_)
        simp only [Option.bind_some]
        refine Ok.condb (fun hpl => ?_) (fun _ => Ok.inl ⟨by omega, rfl, hv⟩)
        refine Ok.gd (by omega) (Ok.gd (by omega) (Ok.gd (by omega) ?_))
        obtain ⟨ph, t⟩ := y8
        simp only at h8
        subst h8
        obtain ⟨p1, p2, hg⟩ := h7 ph e8
        exact Ok.inl ⟨by omega, rfl, good ph p1 p2 v hv i (by omega) hpl (hg i (by omega) hpl)⟩

theorem R_in (P : Int) (l : List Ent) (p : Nat) (h : 0 ≤ (R P l p).1) : inAt P (R P l p) := by
  unfold R at h ⊢
  rcases best_spec P p l with ⟨e1, h1⟩ | ⟨b, hb, e1, hP, h1⟩
  · rw [e1] at h; simp at h
  · rw [e1]
    have := hP.1
    simp only [okE, Bool.and_eq_true, decide_eq_true_eq] at this
    exact ⟨this.2.2.1, this.2.2.2.1, this.2.2.2.2.1, this.2.2.2.2.2⟩

theorem new_end (P L s : Int) (l : List Ent) (pl : List (Int × Int)) (u : List (Int × Int)) (hl : l.length ≤ 1000000) (hu : u.length ≤ 1000000) (hin : ∀ p, p < u.length → 0 ≤ (u.getD p (0, 0)).1 → inAt P (u.getD p (0, 0))) :
    (Option.bind (m21 (P, (u, (l, ())))) fun (y4 : ((List (Int × Int)) × Unit)) =>
      bif (!(decide ((((List.length y4.1) : Nat) : Int) = (((List.length u) : Nat) : Int)))) then
        (some (false, ()))
      else
        (Option.bind (loopM (X := Int) (E := (Unit ⊕ Bool)) (fun (x5 : Int) =>
            bif (decide (x5 < (((List.length y4.1) : Nat) : Int))) then
              (gd ((0 : Int) ≤ x5) (gd (x5 < (((List.length y4.1) : Nat) : Int)) (bif (decide (x5 ≥ (((List.length u) : Nat) : Int))) then
                    (some (Sum.inr (Sum.inr false)))
                  else
                    (gd ((0 : Int) ≤ x5) (gd (x5 < (((List.length u) : Nat) : Int)) (bif (!(bif (decide ((List.getD y4.1 (Int.toNat x5) ((0 : Int), (0 : Int))).1 ≥ (0 : Int))) then (decide ((List.getD u (Int.toNat x5) ((0 : Int), (0 : Int))).1 ≥ (0 : Int))) else (!(decide ((List.getD u (Int.toNat x5) ((0 : Int), (0 : Int))).1 ≥ (0 : Int)))))) then
                          (some (Sum.inr (Sum.inr false)))
                        else
                          (bif (decide ((List.getD y4.1 (Int.toNat x5) ((0 : Int), (0 : Int))).1 ≥ (0 : Int))) then
                            (Option.bind (m22 ((P, (L, (s, (l, pl)))), (x5, ((List.getD y4.1 (Int.toNat x5) ((0 : Int), (0 : Int))), ())))) fun (y6 : (Int × Unit)) =>
                            gd ((0 : Int) ≤ x5) (gd (x5 < (((List.length u) : Nat) : Int)) (Option.bind (m22 ((P, (L, (s, (l, pl)))), (x5, ((List.getD u (Int.toNat x5) ((0 : Int), (0 : Int))), ())))) fun (y7 : (Int × Unit)) =>
                                bif (decide (y6.1 < y7.1)) then
                                  (some (Sum.inr (Sum.inr false)))
                                else
                                  (some (Sum.inl (Go.IntKind.wrap .i64 (x5 + (1 : Int))))))))
                          else
                            (some (Sum.inl (Go.IntKind.wrap .i64 (x5 + (1 : Int))))))))))))
            else
              (some (Sum.inr (Sum.inl ())))) (0 : Int)) fun (y5 : (Unit ⊕ Bool)) =>
        Sum.elim (fun y6 =>
          some (true, ())) (fun y6 =>
          some (y6, ())) y5)) = some (true, ()) := by
  suffices H : Ok (Option.bind (m21 (P, (u, (l, ())))) fun (y4 : ((List (Int × Int)) × Unit)) =>
      bif (!(decide ((((List.length y4.1) : Nat) : Int) = (((List.length u) : Nat) : Int)))) then
        (some (false, ()))
      else
        (Option.bind (loopM (X := Int) (E := (Unit ⊕ Bool)) (fun (x5 : Int) =>
            bif (decide (x5 < (((List.length y4.1) : Nat) : Int))) then
              (gd ((0 : Int) ≤ x5) (gd (x5 < (((List.length y4.1) : Nat) : Int)) (bif (decide (x5 ≥ (((List.length u) : Nat) : Int))) then
                    (some (Sum.inr (Sum.inr false)))
                  else
                    (gd ((0 : Int) ≤ x5) (gd (x5 < (((List.length u) : Nat) : Int)) (bif (!(bif (decide ((List.getD y4.1 (Int.toNat x5) ((0 : Int), (0 : Int))).1 ≥ (0 : Int))) then (decide ((List.getD u (Int.toNat x5) ((0 : Int), (0 : Int))).1 ≥ (0 : Int))) else (!(decide ((List.getD u (Int.toNat x5) ((0 : Int), (0 : Int))).1 ≥ (0 : Int)))))) then
                          (some (Sum.inr (Sum.inr false)))
                        else
                          (bif (decide ((List.getD y4.1 (Int.toNat x5) ((0 : Int), (0 : Int))).1 ≥ (0 : Int))) then
                            (Option.bind (m22 ((P, (L, (s, (l, pl)))), (x5, ((List.getD y4.1 (Int.toNat x5) ((0 : Int), (0 : Int))), ())))) fun (y6 : (Int × Unit)) =>
                            gd ((0 : Int) ≤ x5) (gd (x5 < (((List.length u) : Nat) : Int)) (Option.bind (m22 ((P, (L, (s, (l, pl)))), (x5, ((List.getD u (Int.toNat x5) ((0 : Int), (0 : Int))), ())))) fun (y7 : (Int × Unit)) =>
                                bif (decide (y6.1 < y7.1)) then
                                  (some (Sum.inr (Sum.inr false)))
                                else
                                  (some (Sum.inl (Go.IntKind.wrap .i64 (x5 + (1 : Int))))))))
                          else
                            (some (Sum.inl (Go.IntKind.wrap .i64 (x5 + (1 : Int))))))))))))
            else
              (some (Sum.inr (Sum.inl ())))) (0 : Int)) fun (y5 : (Unit ⊕ Bool)) =>
        Sum.elim (fun y6 =>
          some (true, ())) (fun y6 =>
          some (y6, ())) y5)) (fun r => r = (true, ())) by
    obtain ⟨r, e, rfl⟩ := H; exact e
  refine Ok.bind (m21_ok P u l hu hl) fun y4 hy => ?_
  obtain ⟨v, ⟨⟩⟩ := y4
  obtain ⟨hv1, hv2⟩ := hy
  simp only at hv1 hv2 ⊢
  refine Ok.ncond (fun h => absurd (by omega) h) (fun _ => ?_)
  refine Ok.bind (S := fun y => y = Sum.inl ()) (Ok.loop u.length (fun i x => x = (i : Int)) rfl ?_) fun y5 hy => ?_
  · rintro i x hi rfl
    refine Ok.cond (fun hc => ?_) (fun _ => Ok.inr rfl)
    have hiu : i < u.length := by omega
    refine Ok.gd (by omega) (Ok.gd (by omega) ?_)
    refine Ok.cond (fun h => by omega) (fun _ => ?_)
    refine Ok.gd (by omega) (Ok.gd (by omega) ?_)
    rw [Int.toNat_natCast, wrap64 (n := (i : Int) + 1) (by omega) (by omega)]
    have h2 := hv2 i hiu
    have hin := hin i hiu
    generalize v.getD i (0, 0) = a at h2
    generalize u.getD i (0, 0) = b at h2 hin
    have hab : (a.1 ≥ 0 ↔ b.1 ≥ 0) ∧ (a.1 ≥ 0 → inAt P a) ∧ numb P i a l = numb P i b l := by
      rcases h2 with rfl | ⟨h1, h3, h4⟩
      · exact ⟨Iff.rfl, hin, rfl⟩
      · simp only [isPl, Bool.and_eq_true, decide_eq_true_eq] at h1
        exact ⟨⟨fun _ => h1.1.1, fun _ => h3.1⟩, fun _ => h3, h4⟩
    obtain ⟨h5, h6, h7⟩ := hab
    refine Ok.condb (fun h => ?_) (fun _ => ?_)
    · exfalso
      by_cases ha : a.1 ≥ 0
      · have hb := h5.1 ha
        simp [ha, hb] at h
      · have hb : ¬ b.1 ≥ 0 := fun hb => ha (h5.2 hb)
        simp [ha, hb] at h
    · refine Ok.cond (fun ha => ?_) (fun _ => Ok.inl ⟨by omega, rfl⟩)
      rw [m22_eq P L s l pl _ _ hl (h6 ha)]
      simp only [Option.bind_some]
      refine Ok.gd (by omega) (Ok.gd (by omega) ?_)
      rw [m22_eq P L s l pl _ _ hl (hin (h5.1 ha))]
      simp only [Option.bind_some]
      refine Ok.cond (fun h => by omega) (fun _ => Ok.inl ⟨by omega, rfl⟩)
  · subst hy
    exact Ok.some rfl

theorem ScanNew_pure : ∀ x : AM.PDen [(true, (.pair (.int .i64) (.pair (.int .i64) (.pair (.int .i64) (.pair (.sl (.pair (.pair (.int .i64) (.int .i64)) (.pair (.int .i64) (.pair (.int .i64) (.pair (.int .i64) (.int .i64)))))) (.sl (.pair (.int .i64) (.int .i64))))))))], AM.PWf _ x → m6 x = some (true, ()) := by
  suffices H : ∀ (P L s : Int) (l : List Ent) (pl : List (Int × Int)), m6 ((P, (L, (s, (l, pl)))), ()) = some (true, ()) from fun ⟨⟨P, L, s, l, pl⟩, ⟨⟩⟩ _ => H P L s l pl
  intro P L s l pl
  unfold m6
  rw [m11_eq]
  simp only [Option.bind_some, Bool.not_true, Bool.cond_false, m12]
  by_cases hf : ((List.length l : Nat) : Int) ≤ 80 ∧ ((List.length pl : Nat) : Int) ≤ 400 ∧ (L ≤ 24 ∨ L > 256)
  · have hl : l.length ≤ 1000000 := by omega
    have hfew : (bif decide (((List.length l : Nat) : Int) ≤ 80) then (bif decide (((List.length pl : Nat) : Int) ≤ 400) then (bif decide (L ≤ 24) then some (true, ()) else some (decide (L > 256), ())) else some (false, ())) else some (false, ())) = some (true, ()) := by
      simp only [Bool.cond_eq_ite, decide_eq_true_eq]
      rw [if_pos hf.1, if_pos hf.2.1]
      split
      · rfl
      · rw [decide_eq_true (by omega)]
    rw [hfew]
    simp only [Option.bind_some, Bool.not_true, Bool.cond_false]
    cases hs : shelfOk P L
    · rw [m14_bad P L l hs]
      exact new_end P L s l pl [] hl (by simp) (fun p hp => by simp at hp)
    · have hs' := hs
      simp only [shelfOk, decide_eq_true_eq] at hs'
      have hmul := Int.mul_le_mul (a := P) (b := L) (c := 32) (d := 32) (by omega) (by omega) (by omega) (by omega)
      rw [m14_eq P L l hs (by omega) hl]
      refine new_end P L s l pl _ hl (by simp; omega) (fun p hp => ?_)
      have hp' : p < (P * L).toNat := by simpa using hp
      have hg : (List.map (R P l) (List.range (P * L).toNat)).getD p (0, 0) = R P l p := by
        simp [List.getD_eq_getElem?_getD, hp']
      rw [hg]
      exact R_in P l p
  · have hfew : (bif decide (((List.length l : Nat) : Int) ≤ 80) then (bif decide (((List.length pl : Nat) : Int) ≤ 400) then (bif decide (L ≤ 24) then some (true, ()) else some (decide (L > 256), ())) else some (false, ())) else some (false, ())) = some (false, ()) := by
      simp only [Bool.cond_eq_ite, decide_eq_true_eq]
      split
      · split
        · rw [if_neg (by omega), decide_eq_false (by omega)]
        · rfl
      · rfl
    rw [hfew]
    rfl
end Go.Proofs.Ytefekolpfklhdaa
