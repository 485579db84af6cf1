/- What the two readings of a scan come to, with no program in sight. -/
import Derived.Test.YtefekolpfklhdaaFnScanNew
import Derived.Test.YtefekolpfklhdaaAmA31
set_option maxRecDepth 2000
set_option linter.unusedVariables false
set_option linter.unusedSimpArgs false
namespace Go.Proofs.Ytefekolpfklhdaa
open Go Go.Proofs.AM

abbrev Rec := Int × (Int × (Int × Int))
abbrev Ent := (Int × Int) × Rec

def chk (r : Rec) : Bool := decide (1 ≤ r.1 ∧ r.1 ≤ 3 ∧ 0 ≤ r.2.1 ∧ r.2.1 < 1048576 ∧ 1 ≤ r.2.2.1 ∧ r.2.2.1 ≤ r.2.2.2 ∧ r.2.2.2 ≤ 1152921504606846976 ∧ (r.1 = 1 ∨ r.2.2.2 = r.2.2.1))
def okE (P : Int) (e : Ent) : Bool := chk e.2 && decide (¬ e.2.1 = 3 ∧ 0 ≤ e.1.1 ∧ e.1.1 < 256 ∧ 0 ≤ e.1.2 ∧ e.1.2 < P)

theorem m18_eq (r : Rec) : m18 (r, ()) = some (if chk r then 0 else 30, ()) := by
  obtain ⟨a, b, c, d⟩ := r
  unfold m18 chk
  simp only [Bool.cond_eq_ite, Bool.not_eq_true', decide_eq_true_eq, decide_eq_false_iff_not]
  repeat' split
  all_goals first | rfl | (exfalso; omega)

theorem m46_eq (r : Rec) : m46 (r, ()) = some (if chk r then 0 else 30, ()) := by
  obtain ⟨a, b, c, d⟩ := r
  unfold m46 chk
  simp only [Bool.cond_eq_ite, Bool.not_eq_true', decide_eq_true_eq, decide_eq_false_iff_not]
  repeat' split
  all_goals first | rfl | (exfalso; omega)

theorem m44_eq (P : Int) (e : Ent) : m44 (P, (e, ())) = some (okE P e, ()) := by
  unfold m44
  rw [m18_eq]
  unfold okE
  cases h : chk e.2
  · simp [h]
  · simp only [Option.bind_some, if_true, decide_true, Bool.cond_true, Bool.cond_eq_ite, Bool.not_eq_true', decide_eq_true_eq, decide_eq_false_iff_not, Bool.true_and]
    repeat' split
    all_goals (congr 2; rw [Bool.eq_iff_iff]; simp only [decide_eq_true_eq, Bool.false_eq_true, false_iff]; omega)

theorem m48_eq (a b c : Int) : m48 (a, (b, (c, ()))) = some (decide (b ≤ a ∧ a ≤ c), ()) := by
  unfold m48
  simp only [Bool.cond_eq_ite, decide_eq_true_eq]
  split <;> (congr 2; rw [Bool.eq_iff_iff]; simp only [decide_eq_true_eq, Bool.false_eq_true, false_iff]; omega)

theorem m68_eq {P : Int} (h1 : 4 ≤ P) (h2 : P ≤ 32) (e : Ent) : m68 (P, (e, ())) = some (okE P e, ()) := by
  unfold m68
  rw [m46_eq]
  unfold okE
  cases h : chk e.2
  · simp [h]
  · simp only [m48_eq, wrap64 (n := P - 1) (by omega) (by omega), Option.bind_some, if_true, decide_true, Bool.cond_true, Bool.cond_eq_ite, Bool.not_eq_true', decide_eq_true_eq, decide_eq_false_iff_not, Bool.true_and]
    repeat' split
    all_goals (congr 2; rw [Bool.eq_iff_iff]; simp only [decide_eq_true_eq, Bool.false_eq_true, false_iff]; omega)

def newer (a b : Rec) : Bool := decide (a.2.2.1 > b.2.2.1 ∨ (a.2.2.1 = b.2.2.1 ∧ a.2.2.2 < b.2.2.2))
theorem m69_eq (a b : Rec) : m69 (a, (b, ())) = some (newer a b, ()) := by
  unfold m69 newer
  simp only [Bool.cond_eq_ite, Bool.not_eq_true', decide_eq_true_eq, decide_eq_false_iff_not]
  repeat' split
  all_goals (congr 2; rw [Bool.eq_iff_iff]; simp only [decide_eq_true_eq, Bool.false_eq_true, false_iff, true_iff]; omega)
theorem m71_eq (a b : Rec) : m71 (a, (b, ())) = some (newer a b, ()) := by
  unfold m71 newer
  simp only [Bool.cond_eq_ite, Bool.not_eq_true', decide_eq_true_eq, decide_eq_false_iff_not]
  repeat' split
  all_goals (congr 2; rw [Bool.eq_iff_iff]; simp only [decide_eq_true_eq, Bool.false_eq_true, false_iff, true_iff]; omega)

def bt (a b : Ent) : Bool := newer a.2 b.2 || (!newer b.2 a.2 && decide (a.1.1 < b.1.1 ∨ (a.1.1 = b.1.1 ∧ a.1.2 < b.1.2)))
theorem m40_eq (a b : Ent) : m40 (a, (b, ())) = some (bt a b, ()) := by
  unfold m40 bt
  simp only [m69_eq, Option.bind_some]
  cases newer a.2 b.2 <;> cases newer b.2 a.2 <;> simp [Bool.cond_eq_ite]
  by_cases h : a.1.1 = b.1.1 <;> simp [h]
theorem m45_eq (a b : Ent) : m45 (a, (b, ())) = some (bt a b, ()) := by
  unfold m45 bt
  simp only [m71_eq, Option.bind_some]
  cases newer a.2 b.2 <;> cases newer b.2 a.2 <;> simp [Bool.cond_eq_ite]
  by_cases h : a.1.1 = b.1.1
  · simp [h]
  · by_cases h2 : a.1.1 < b.1.1 <;> simp [h, h2]

/-! ### a page's newest record -/
def bestStep (P p : Int) (o : Option Ent) (e : Ent) : Option Ent :=
  if okE P e = true ∧ e.2.2.1 = p then (match o with
    | none => some e
    | some b => if bt e b then some e else some b) else o
def best (P p : Int) (l : List Ent) : Option Ent := l.foldl (bestStep P p) none
def R (P : Int) (l : List Ent) (p : Nat) : Int × Int := match best P p l with
  | none => (-1, 0)
  | some e => e.1

theorem best_snoc (P p : Int) (l : List Ent) (e : Ent) : best P p (l ++ [e]) = bestStep P p (best P p l) e := by simp [best, List.foldl_append]

theorem take_snoc {A : Type} (l : List A) (i : Nat) (h : i < l.length) (z : A) : l.take (i + 1) = l.take i ++ [l.getD i z] := by
  rw [List.take_add_one, List.getD_eq_getElem?_getD, List.getElem?_eq_getElem h]; rfl

/-! ### slices of one thing repeated -/
theorem m89_one : ∀ n : Fin 1025, m89 (1, ((n.val : Int), ())) = some (0, ((n.val : Int), ())) := by
  unfold m89; decide +kernel

theorem rep_copy {A : Type} (a z : A) (N b : Nat) (hb : b < N) :
    (List.take b (List.replicate b a ++ List.replicate (N - b) z) ++ List.take (N - b) (List.take b (List.replicate b a ++ List.replicate (N - b) z)) ++ List.drop (b + min b (N - b)) (List.replicate b a ++ List.replicate (N - b) z)) = List.replicate (b + min b (N - b)) a ++ List.replicate (N - (b + min b (N - b))) z := by
  have e1 : List.take b (List.replicate b a ++ List.replicate (N - b) z) = List.replicate b a := by simp [List.take_append]
  rw [e1]
  have e2 : List.take (N - b) (List.replicate b a) = List.replicate (min b (N - b)) a := by rw [List.take_replicate, Nat.min_comm]
  rw [e2, List.replicate_append_replicate]
  congr 1
  rw [List.drop_append]
  simp [List.drop_replicate]
  omega

end Go.Proofs.Ytefekolpfklhdaa

namespace Go.Proofs.Ytefekolpfklhdaa
open Go Go.Proofs.AM

theorem m41_eq (a : Int × Int) (N : Nat) (n1 : 1 ≤ N) (n2 : N ≤ 1024) : m41 ([a], ((N : Int), ())) = some (List.replicate N a) := by
  have hm : m70 ((IntKind.wrap .u64 (((List.length [a]) : Nat) : Int)), ((IntKind.wrap .u64 (N : Int)), ())) = some (0, ((N : Int), ())) := by
    rw [wrapU64 (n := (N : Int)) (by omega) (by omega), wrapU64 (n := ((List.length [a] : Nat) : Int)) (by simp) (by simp)]
    unfold m70
    have := m89_one ⟨N, by omega⟩
    simp only [List.length_singleton] at this ⊢
    rw [show ((1 : Nat) : Int) = 1 from rfl, this]; rfl
  unfold m41
  simp only [hm, Option.bind_some]
  rw [wrap64 (n := (N : Int)) (by omega) (by omega)]
  simp only [Bool.cond_eq_ite, decide_eq_true_eq]
  rw [if_neg (by omega), if_neg (by omega), if_neg (by omega), gd_pos (by omega), gd_pos (by omega), gd_pos (by omega)]
  rw [loop_wf (e := List.replicate N a) (fun x e => ∃ b : Nat, 1 ≤ b ∧ b ≤ N ∧ x = ((b : Int), List.replicate b a ++ List.replicate (N - b) (0, 0)) ∧ e = List.replicate N a) (fun x => N - x.1.toNat)]
  · rfl
  · rintro x e ⟨b, b1, b2, rfl, rfl⟩
    have hl : (List.replicate b a ++ List.replicate (N - b) ((0 : Int), (0 : Int))).length = N := by simp; omega
    simp only [hl]
    by_cases hb : b < N
    · right
      refine ⟨(((b + min b (N - b) : Nat) : Int), _), ?_, ⟨b + min b (N - b), by omega, by omega, rfl, trivial⟩, ?_⟩
      · rw [if_pos (by omega), gd_pos (by omega), gd_pos (by omega), gd_pos (by omega), gd_pos (by omega), gd_pos (by omega)]
        simp only [Int.toNat_natCast, Int.toNat_zero, Nat.sub_zero, List.drop_zero, List.length_take, hl, Nat.min_eq_left b2]
        rw [rep_copy _ _ _ _ hb, wrap64 (by omega) (by omega)]
        congr 4
      · simp only [Int.toNat_natCast]; omega
    · left
      obtain rfl : b = N := by omega
      rw [if_neg (by omega)]
      simp
  · refine ⟨1, by omega, n1, ?_, rfl⟩
    simp only [List.length_singleton, List.length_replicate, Int.toNat_natCast]
    congr 1
    · omega
    · rw [List.drop_replicate, List.take_of_length_le (by simp; omega)]; rfl

theorem m66_eq (a : Int) (N : Nat) (n1 : 1 ≤ N) (n2 : N ≤ 1024) : m66 ([a], ((N : Int), ())) = some (List.replicate N a) := by
  have hm : m70 ((IntKind.wrap .u64 (((List.length [a]) : Nat) : Int)), ((IntKind.wrap .u64 (N : Int)), ())) = some (0, ((N : Int), ())) := by
    rw [wrapU64 (n := (N : Int)) (by omega) (by omega), wrapU64 (n := ((List.length [a] : Nat) : Int)) (by simp) (by simp)]
    unfold m70
    have := m89_one ⟨N, by omega⟩
    simp only [List.length_singleton] at this ⊢
    rw [show ((1 : Nat) : Int) = 1 from rfl, this]; rfl
  unfold m66
  simp only [hm, Option.bind_some]
  rw [wrap64 (n := (N : Int)) (by omega) (by omega)]
  simp only [Bool.cond_eq_ite, decide_eq_true_eq]
  rw [if_neg (by omega), if_neg (by omega), if_neg (by omega), gd_pos (by omega), gd_pos (by omega), gd_pos (by omega)]
  rw [loop_wf (e := List.replicate N a) (fun x e => ∃ b : Nat, 1 ≤ b ∧ b ≤ N ∧ x = ((b : Int), List.replicate b a ++ List.replicate (N - b) 0) ∧ e = List.replicate N a) (fun x => N - x.1.toNat)]
  · rfl
  · rintro x e ⟨b, b1, b2, rfl, rfl⟩
    have hl : (List.replicate b a ++ List.replicate (N - b) (0 : Int)).length = N := by simp; omega
    simp only [hl]
    by_cases hb : b < N
    · right
      refine ⟨(((b + min b (N - b) : Nat) : Int), _), ?_, ⟨b + min b (N - b), by omega, by omega, rfl, trivial⟩, ?_⟩
      · rw [if_pos (by omega), gd_pos (by omega), gd_pos (by omega), gd_pos (by omega), gd_pos (by omega), gd_pos (by omega)]
        simp only [Int.toNat_natCast, Int.toNat_zero, Nat.sub_zero, List.drop_zero, List.length_take, hl, Nat.min_eq_left b2]
        rw [rep_copy _ _ _ _ hb, wrap64 (by omega) (by omega)]
        congr 4
      · simp only [Int.toNat_natCast]; omega
    · left
      obtain rfl : b = N := by omega
      rw [if_neg (by omega)]
      simp
  · refine ⟨1, by omega, n1, ?_, rfl⟩
    simp only [List.length_singleton, List.length_replicate, Int.toNat_natCast]
    congr 1
    · omega
    · rw [List.drop_replicate, List.take_of_length_le (by simp; omega)]; rfl

def shelfOk (P L : Int) : Bool := decide (4 ≤ P ∧ P ≤ 32 ∧ 1 ≤ L ∧ L ≤ 256)

theorem m38_ok {P L : Int} (h : shelfOk P L = true) : ∃ v, m38 (P, (L, (1, ()))) = some (v, (0, ())) := by
  simp only [shelfOk, decide_eq_true_eq] at h
  obtain ⟨N, rfl⟩ : ∃ N : Nat, L = N := ⟨L.toNat, by omega⟩
  have hp : 0 ≤ (N : Int) * P ∧ (N : Int) * P ≤ 256 * 32 := ⟨Int.mul_nonneg (by omega) (by omega), by
    have := Int.mul_le_mul (a := (N : Int)) (b := P) (c := 256) (d := 32) (by omega) (by omega) (by omega) (by omega)
    exact this⟩
  unfold m38
  simp only [Bool.cond_eq_ite, decide_eq_true_eq]
  rw [if_neg (by omega), if_neg (by omega), if_neg (by omega), if_neg (by omega), if_neg (by omega), if_neg (by omega), m66_eq _ _ (by omega) (by omega), wrap64 (n := (N : Int) * P) (by omega) (by omega)]
  simp only [Option.bind_some]
  rw [gd_pos (by omega), gd_pos (by omega), gd_pos (by omega)]
  exact ⟨_, rfl⟩

theorem m38_bad {P L : Int} (h : shelfOk P L = false) : ∃ v, m38 (P, (L, (1, ()))) = some (v, (1, ())) := by
  simp only [shelfOk, decide_eq_false_iff_not] at h
  unfold m38
  simp only [Bool.cond_eq_ite, decide_eq_true_eq]
  repeat' split
  all_goals first | exact ⟨_, rfl⟩ | (exfalso; omega)

theorem m43_ok {P L : Int} (h : shelfOk P L = true) : ∃ v, m43 (P, (L, (1, ()))) = some (v, (0, ())) := by
  simp only [shelfOk, decide_eq_true_eq] at h
  obtain ⟨N, rfl⟩ : ∃ N : Nat, L = N := ⟨L.toNat, by omega⟩
  have hp : 0 ≤ P * (N : Int) ∧ P * (N : Int) ≤ 32 * 256 := ⟨Int.mul_nonneg (by omega) (by omega), by
    have := Int.mul_le_mul (a := P) (b := (N : Int)) (c := 32) (d := 256) (by omega) (by omega) (by omega) (by omega)
    exact this⟩
  unfold m43
  simp only [Bool.cond_eq_ite, decide_eq_true_eq]
  rw [if_neg (by omega), if_neg (by omega), if_neg (by omega), if_neg (by omega), if_neg (by omega), if_neg (by omega), wrap64 (n := P * (N : Int)) (by omega) (by omega)]
  rw [loop_idx' N (fun i => ((i : Int), (P, ((N : Int), (1, (List.replicate i (-1 : Int), ([], (0, (0, (0, [])))))))))) ?_ ?_ (e := (P, ((N : Int), (1, (List.replicate N (-1 : Int), ([], (0, (0, (0, []))))))))) ?_]
  · simp only [Option.bind_some]
    rw [gd_pos (by omega), gd_pos (by omega), gd_pos (by omega)]
    exact ⟨_, rfl⟩
  · rfl
  · intro i hi
    simp only
    rw [if_pos (by omega), gd_pos (by simp; omega), gd_pos (by simp; omega), wrap64 (by omega) (by omega)]
    simp only [List.replicate_succ', Int.natCast_add, Int.natCast_one]
  · simp only
    rw [if_neg (by omega)]

theorem m43_bad {P L : Int} (h : shelfOk P L = false) : ∃ v, m43 (P, (L, (1, ()))) = some (v, (1, ())) := by
  simp only [shelfOk, decide_eq_false_iff_not] at h
  unfold m43
  simp only [Bool.cond_eq_ite, decide_eq_true_eq]
  repeat' split
  all_goals first | exact ⟨_, rfl⟩ | (exfalso; omega)

theorem m13_eq (l : List (Int × Int)) (h : l.length ≤ 1000000) : m13 (l, (l, ())) = some (true, ()) := by
  unfold m13
  simp only [Bool.cond_eq_ite, decide_eq_true_eq, decide_true, Bool.not_true, Bool.false_eq_true, if_false, Bool.and_self]
  rw [loop_idx' l.length (fun i => (i : Int)) ?_ ?_ (e := .inl ()) ?_]
  · rfl
  · rfl
  · intro i hi
    rw [if_pos (by omega), gd_pos (by omega), gd_pos (by omega), gd_pos (by omega), gd_pos (by omega), wrap64 (by omega) (by omega)]
    rfl
  · rw [if_neg (by omega)]

def great (l : List Ent) : Nat → Int
  | 0 => 0
  | i + 1 => if chk (l.getD i ((0, 0), (0, (0, (0, 0))))).2 = true then (if (l.getD i ((0, 0), (0, (0, (0, 0))))).2.2.2.2 > great l i then (l.getD i ((0, 0), (0, (0, (0, 0))))).2.2.2.2 else great l i) else great l i

theorem m16_eq (l : List Ent) (h : l.length ≤ 1000000) : m16 (l, ()) = some (great l l.length, ()) := by
  unfold m16
  simp only [Bool.cond_eq_ite, decide_eq_true_eq]
  rw [loop_idx' l.length (fun i => (great l i, (i : Int))) ?_ ?_ (e := great l l.length) ?_]
  · rfl
  · rfl
  · intro i hi
    simp only
    rw [if_pos (by omega), gd_pos (by omega), gd_pos (by omega), wrap64 (by omega) (by omega), Int.toNat_natCast, m46_eq]
    simp only [Option.bind_some, great]
    cases chk (l.getD i ((0, 0), (0, (0, (0, 0))))).2 <;> simp
  · simp only
    rw [if_neg (by omega)]

theorem m17_eq (l : List Ent) (h : l.length ≤ 1000000) : m17 (l, ()) = some (great l l.length, ()) := by
  unfold m17
  simp only [Bool.cond_eq_ite, decide_eq_true_eq]
  rw [loop_idx' l.length (fun i => (great l i, (i : Int))) ?_ ?_ (e := great l l.length) ?_]
  · rfl
  · rfl
  · intro i hi
    simp only
    rw [if_pos (by omega), gd_pos (by omega), gd_pos (by omega), wrap64 (by omega) (by omega), Int.toNat_natCast, m18_eq]
    simp only [Option.bind_some, great]
    rw [gd_pos (by omega), gd_pos (by omega)]
    cases chk (l.getD i ((0, 0), (0, (0, (0, 0))))).2 <;> simp
  · simp only
    rw [if_neg (by omega)]
end Go.Proofs.Ytefekolpfklhdaa

namespace Go.Proofs.Ytefekolpfklhdaa
open Go Go.Proofs.AM

abbrev z0 : Ent := ((0, 0), (0, (0, (0, 0))))

def pick (P N : Int) (m : List (Int × Ent)) (e : Ent) : List (Int × Ent) :=
  if okE P e = true ∧ e.2.2.1 < N then (match ifind m e.2.2.1 with
    | none => mset (false, .int .i64) m e.2.2.1 e
    | some b => if bt e b = true then mset (false, .int .i64) m e.2.2.1 e else m) else m
def picks (P N : Int) (l : List Ent) : List (Int × Ent) := l.foldl (pick P N) []

theorem okE_page {P : Int} {e : Ent} (h : okE P e = true) : 0 ≤ e.2.2.1 := by
  simp only [okE, chk, Bool.and_eq_true, decide_eq_true_eq] at h; omega

theorem bestStep_page {P p : Int} {l : List Ent} {b : Ent} (h : best P p l = some b) : b.2.2.1 = p ∧ okE P b = true := by
  suffices H : ∀ (l : List Ent) (o : Option Ent), (∀ b, o = some b → b.2.2.1 = p ∧ okE P b = true) → ∀ b, l.foldl (bestStep P p) o = some b → b.2.2.1 = p ∧ okE P b = true from
    H l none (fun b h => by simp at h) b h
  intro l
  induction l with
  | nil => intro o ho b hb; exact ho b hb
  | cons e l ih =>
    intro o ho b hb
    refine ih _ ?_ b hb
    intro b hb
    unfold bestStep at hb
    split at hb
    · rename_i hc
      split at hb
      · simp at hb; subst hb; exact ⟨hc.2, hc.1⟩
      · split at hb
        · simp at hb; subst hb; exact ⟨hc.2, hc.1⟩
        · exact ho b hb
    · exact ho b hb

theorem picks_ok (P N : Int) (l : List Ent) : ((picks P N l).map Prod.fst).Nodup ∧ (∀ k, k ∈ (picks P N l).map Prod.fst → 0 ≤ k ∧ k < N) ∧ ∀ p, p < N → ifind (picks P N l) p = best P p l := by
  suffices H : ∀ (l : List Ent) (m : List (Int × Ent)) (o : Int → Option Ent), ((m.map Prod.fst).Nodup ∧ (∀ k, k ∈ m.map Prod.fst → 0 ≤ k ∧ k < N) ∧ ∀ p, p < N → ifind m p = o p) →
      (((l.foldl (pick P N) m).map Prod.fst).Nodup ∧ (∀ k, k ∈ (l.foldl (pick P N) m).map Prod.fst → 0 ≤ k ∧ k < N) ∧ ∀ p, p < N → ifind (l.foldl (pick P N) m) p = l.foldl (bestStep P p) (o p)) from
    H l [] (fun _ => none) ⟨by simp, by simp, fun p _ => rfl⟩
  intro l
  induction l with
  | nil => intro m o h; exact h
  | cons e l ih =>
    intro m o h
    refine ih (pick P N m e) (fun p => bestStep P p (o p) e) ?_
    obtain ⟨h1, h2, h3⟩ := h
    unfold pick
    by_cases hc : okE P e = true ∧ e.2.2.1 < N
    · have set : ∀ (q : ∀ p, p < N → (if p = e.2.2.1 then some e else ifind m p) = bestStep P p (o p) e), ((mset (false, .int .i64) m e.2.2.1 e).map Prod.fst).Nodup ∧ (∀ k, k ∈ (mset (false, .int .i64) m e.2.2.1 e).map Prod.fst → 0 ≤ k ∧ k < N) ∧ ∀ p, p < N → ifind (mset (false, .int .i64) m e.2.2.1 e) p = bestStep P p (o p) e := by
        intro q
        refine ⟨mset_nodup _ _ _ h1, fun k hk => ?_, fun p hp => ?_⟩
        · rcases mset_keys _ _ _ _ hk with rfl | hk
          · exact ⟨okE_page hc.1, hc.2⟩
          · exact h2 k hk
        · rw [mset_ifind]; exact q p hp
      rw [if_pos hc]
      cases hf : ifind m e.2.2.1 with
      | none =>
        refine set fun p hp => ?_
        unfold bestStep
        by_cases hpe : p = e.2.2.1
        · subst hpe
          rw [if_pos rfl, if_pos ⟨hc.1, rfl⟩, ← h3 _ hp, hf]
        · rw [if_neg hpe, if_neg (fun h => hpe h.2.symm)]; exact h3 p hp
      | some b =>
        by_cases hb : bt e b = true
        · simp only [hb, if_true]
          refine set fun p hp => ?_
          unfold bestStep
          by_cases hpe : p = e.2.2.1
          · subst hpe
            rw [if_pos rfl, if_pos ⟨hc.1, rfl⟩, ← h3 _ hp, hf]; simp [hb]
          · rw [if_neg hpe, if_neg (fun h => hpe h.2.symm)]; exact h3 p hp
        · simp only [hb]
          refine ⟨h1, h2, fun p hp => ?_⟩
          show ifind m p = _
          unfold bestStep
          by_cases hpe : p = e.2.2.1
          · subst hpe
            rw [if_pos ⟨hc.1, rfl⟩, ← h3 _ hp, hf]; simp [hb]
          · rw [if_neg (fun h : okE P e = true ∧ e.2.2.1 = p => hpe h.2.symm)]; exact h3 p hp
    · rw [if_neg hc]
      refine ⟨h1, h2, fun p hp => ?_⟩
      unfold bestStep
      rw [if_neg (fun h : okE P e = true ∧ e.2.2.1 = p => hc ⟨h.1, h.2 ▸ hp⟩)]
      exact h3 p hp

theorem picks_snoc (P N : Int) (l : List Ent) (e : Ent) : picks P N (l ++ [e]) = pick P N (picks P N l) e := by simp [picks, List.foldl_append]

theorem m14_eq (P L : Int) (l : List Ent) (hs : shelfOk P L = true) (hL : L ≤ 32) (hl : l.length ≤ 1000000) : m14 (P, (L, (l, ()))) = some ((List.range (P * L).toNat).map (R P l), ()) := by
  have hs' := hs
  simp only [shelfOk, decide_eq_true_eq] at hs'
  have hp : 0 < L * P ∧ L * P ≤ 32 * 32 := ⟨Int.mul_pos (by omega) (by omega), Int.mul_le_mul (a := L) (b := P) (c := 32) (d := 32) (by omega) (by omega) (by omega) (by omega)⟩
  obtain ⟨v, hv⟩ := m38_ok hs
  have hN : L * P = ((L * P).toNat : Int) := by omega
  have hPL : P * L = L * P := Int.mul_comm _ _
  obtain ⟨k1, k2, k3⟩ := picks_ok P (L * P) l
  unfold m14
  simp only [hv, Option.bind_some, Bool.cond_eq_ite, decide_eq_true_eq, decide_true, Bool.not_true, Bool.false_eq_true, if_false]
  rw [wrap64 (n := L * P) (by omega) (by omega)]
  rw [loop_idx' l.length (fun i => ((i : Int), picks P (L * P) (l.take i))) ?_ ?_ (e := picks P (L * P) l) ?_]
  · simp only [Option.bind_some, m42]
    have h41 := m41_eq (-1, 0) (L * P).toNat (by omega) (by omega)
    rw [← hN] at h41
    rw [h41]
    simp only [Option.bind_some]
    rw [anyM_of (e := (List.range (L * P).toNat).map (R P l)) (fun w (x : List (Int × Int)) => x.length = (L * P).toNat ∧ (w.map Prod.fst).Nodup ∧ (∀ q, q ∈ w → q ∈ picks P (L * P) l) ∧ ∀ p : Nat, p < (L * P).toNat → ((p : Int) ∉ w.map Prod.fst) → x[p]? = some (R P l p))]
    · rw [hPL]; rfl
    · rintro w x ⟨q1, q2, q3, q4⟩ j p hj
      left
      have hm : p ∈ w := List.mem_of_getElem? hj
      have hk := k2 p.1 (List.mem_map_of_mem (f := Prod.fst) (q3 _ hm))
      refine ⟨x.set p.1.toNat p.2.1, ?_, ?_⟩
      · rw [gd_pos (by omega), gd_pos (by omega), gd_pos (by omega)]
      · have hw : w.map Prod.fst = (w.map Prod.fst) := rfl
        refine ⟨by simp [q1], ?_, fun q hq => q3 q (List.mem_of_mem_eraseIdx hq), fun i hi hn => ?_⟩
        · exact q2.sublist ((List.eraseIdx_sublist _ _).map _)
        · rw [List.getElem?_set]
          by_cases hip : p.1.toNat = i
          · rw [if_pos hip, if_pos (by omega)]
            have hf := ifind_mem k1 (show (p.1, p.2) ∈ picks P (L * P) l from q3 _ hm)
            rw [k3 _ hk.2] at hf
            unfold R
            rw [show (i : Int) = p.1 by omega, hf]
          · rw [if_neg hip]
            refine q4 i hi fun hc => ?_
            obtain ⟨q, hq, hqi⟩ := List.mem_map.1 hc
            refine hn (List.mem_map.2 ⟨q, ?_, hqi⟩)
            rw [List.mem_eraseIdx_iff_getElem?]
            obtain ⟨j', hj'⟩ := List.mem_iff_getElem?.1 hq
            refine ⟨j', fun e => ?_, hj'⟩
            subst e
            rw [hj] at hj'
            obtain rfl : p = q := by simpa using hj'
            omega
    · rintro x ⟨q1, -, -, q4⟩
      congr 2
      refine List.ext_getElem? fun i => ?_
      by_cases hi : i < (L * P).toNat
      · rw [q4 i hi (by simp)]; simp [hi]
      · rw [List.getElem?_eq_none (by omega), List.getElem?_eq_none (by simp; omega)]
    · refine ⟨by simp, k1, fun q hq => hq, fun p hp hn => ?_⟩
      rw [List.getElem?_replicate, if_pos hp]
      have := ifind_none hn
      rw [k3 _ (by omega)] at this
      unfold R; rw [this]
  · rfl
  · intro i hi
    simp only
    rw [if_pos (by omega), gd_pos (by omega), gd_pos (by omega), m68_eq (by omega) (by omega)]
    rw [take_snoc l i hi ((0, 0), (0, (0, (0, 0)))), picks_snoc]
    simp only [Int.toNat_natCast]
    generalize l.getD i ((0, 0), (0, (0, (0, 0)))) = e
    simp only [ Option.bind_some, mhas_ifind, mget_ifind, m40_eq, wrap64 (n := (i : Int) + 1) (by omega) (by omega)]
    unfold pick
    by_cases h1 : okE P e = true
    · rw [if_pos h1]
      by_cases h2 : e.2.2.1 < L * P
      · have hc : okE P e = true ∧ e.2.2.1 < L * P := ⟨h1, h2⟩
        rw [if_neg (show ¬ e.2.2.1 ≥ L * P by omega), if_pos hc]
        cases h3 : ifind (picks P (L * P) (l.take i)) e.2.2.1 with
        | none => simp
        | some b =>
          by_cases h4 : bt e b = true <;> simp [h4]
      · rw [if_pos (show e.2.2.1 ≥ L * P by omega), if_neg (fun h : okE P e = true ∧ e.2.2.1 < L * P => h2 h.2)]; rfl
    · rw [if_neg h1, if_neg (fun h : okE P e = true ∧ e.2.2.1 < L * P => h1 h.1)]; rfl
  · simp only [List.take_length]
    rw [if_neg (by omega)]

theorem m14_bad (P L : Int) (l : List Ent) (hs : shelfOk P L = false) : m14 (P, (L, (l, ()))) = some ([], ()) := by
  obtain ⟨v, hv⟩ := m38_bad hs
  unfold m14
  simp only [hv, Option.bind_some]; rfl

theorem m15_bad (P L : Int) (l : List Ent) (hs : shelfOk P L = false) : m15 (P, (L, (l, ()))) = some ([], ()) := by
  obtain ⟨v, hv⟩ := m43_bad hs
  unfold m15
  simp only [hv, Option.bind_some]; rfl

def bIdx (P p : Int) (l : List Ent) : Nat → Int
  | 0 => -1
  | j + 1 => if okE P (l.getD j z0) = true ∧ (l.getD j z0).2.2.1 = p then (if bIdx P p l j < 0 then j else if bt (l.getD j z0) (l.getD (bIdx P p l j).toNat z0) = true then j else bIdx P p l j) else bIdx P p l j

theorem bIdx_ok (P p : Int) (l : List Ent) : ∀ j, j ≤ l.length → (bIdx P p l j < 0 ∧ best P p (l.take j) = none) ∨ (0 ≤ bIdx P p l j ∧ bIdx P p l j < j ∧ best P p (l.take j) = some (l.getD (bIdx P p l j).toNat z0))
  | 0, _ => .inl ⟨by simp [bIdx], rfl⟩
  | j + 1, hj => by
    have ih := bIdx_ok P p l j (by omega)
    rw [take_snoc l j (by omega) z0, best_snoc]
    unfold bIdx bestStep
    by_cases hc : okE P (l.getD j z0) = true ∧ (l.getD j z0).2.2.1 = p
    · rw [if_pos hc, if_pos hc]
      rcases ih with ⟨h1, h2⟩ | ⟨h1, h2, h3⟩
      · right; rw [if_pos h1, h2]; exact ⟨by omega, by omega, by simp⟩
      · rw [if_neg (by omega), h3]
        by_cases hb : bt (l.getD j z0) (l.getD (bIdx P p l j).toNat z0) = true
        · right; simp only [hb, if_true]; exact ⟨by omega, by omega, by simp⟩
        · right; simp only [hb]; exact ⟨by simp; omega, by simp; omega, by simp⟩
    · rw [if_neg hc, if_neg hc]
      rcases ih with h | ⟨h1, h2, h3⟩
      · exact .inl h
      · right; exact ⟨h1, by omega, h3⟩

theorem m15_eq (P L : Int) (l : List Ent) (hs : shelfOk P L = true) (hL : L ≤ 32) (hl : l.length ≤ 1000000) : m15 (P, (L, (l, ()))) = some ((List.range (P * L).toNat).map (R P l), ()) := by
  have hs' := hs
  simp only [shelfOk, decide_eq_true_eq] at hs'
  have hp : 0 < P * L ∧ P * L ≤ 32 * 32 := ⟨Int.mul_pos (by omega) (by omega), Int.mul_le_mul (a := P) (b := L) (c := 32) (d := 32) (by omega) (by omega) (by omega) (by omega)⟩
  obtain ⟨v, hv⟩ := m43_ok hs
  unfold m15
  simp only [hv, Option.bind_some, Bool.cond_eq_ite, decide_eq_true_eq, decide_true, Bool.not_true, Bool.false_eq_true, if_false]
  rw [wrap64 (n := P * L) (by omega) (by omega)]
  rw [loop_idx' (P * L).toNat (fun i => ((List.range i).map (R P l), (i : Int))) ?_ ?_ (e := (List.range (P * L).toNat).map (R P l)) ?_]
  · rfl
  · rfl
  · intro i hi
    simp only
    rw [if_pos (by omega)]
    rw [loop_idx' l.length (fun j => (bIdx P i l j, (j : Int))) ?_ ?_ (e := bIdx P i l l.length) ?_]
    · have hb := bIdx_ok P i l l.length (Nat.le_refl _)
      rw [List.take_length] at hb
      have hR : R P l i = match best P i l with
        | none => (-1, 0)
        | some e => e.1 := rfl
      simp only [Option.bind_some, List.length_map, List.length_range, List.length_singleton, List.range_succ, List.map_append, List.map_cons, List.map_nil]
      rcases hb with ⟨h1, h2⟩ | ⟨h1, h2, h3⟩
      · rw [if_pos h1, gd_pos (by omega), gd_pos (by omega), wrap64 (by omega) (by omega), hR, h2]; simp
      · rw [if_neg (by omega), gd_pos (by omega), gd_pos (by omega), gd_pos (by omega), gd_pos (by omega), wrap64 (by omega) (by omega), hR, h3]; simp
    · rfl
    · intro j hj
      have hb := bIdx_ok P i l j (by omega)
      simp only
      rw [if_pos (by omega), gd_pos (by omega), gd_pos (by omega), m44_eq]
      simp only [Int.toNat_natCast, Option.bind_some, m45_eq, wrap64 (n := (j : Int) + 1) (by omega) (by omega)]
      rw [show bIdx P i l (j + 1) = if okE P (l.getD j z0) = true ∧ (l.getD j z0).2.2.1 = i then (if bIdx P i l j < 0 then (j : Int) else if bt (l.getD j z0) (l.getD (bIdx P i l j).toNat z0) = true then (j : Int) else bIdx P i l j) else bIdx P i l j from rfl]
      by_cases c1 : okE P (l.getD j z0) = true
      · rw [if_pos c1]
        by_cases c2 : (l.getD j z0).2.2.1 = i
        · rw [if_pos c2]
          have hc : okE P (l.getD j z0) = true ∧ (l.getD j z0).2.2.1 = i := ⟨c1, c2⟩
          rw [if_pos hc]
          rcases hb with ⟨h1, h2⟩ | ⟨h1, h2, h3⟩
          · rw [if_pos h1, if_pos h1]; rfl
          · rw [if_neg (show ¬ bIdx P i l j < 0 by omega), if_neg (show ¬ bIdx P i l j < 0 by omega), gd_pos (by omega), gd_pos (by omega)]
            by_cases c3 : bt (l.getD j z0) (l.getD (bIdx P i l j).toNat z0) = true
            · rw [if_pos c3, if_pos c3]; rfl
            · rw [if_neg c3, if_neg c3]; rfl
        · rw [if_neg c2, if_neg (fun h : okE P (l.getD j z0) = true ∧ (l.getD j z0).2.2.1 = i => c2 h.2)]; rfl
      · rw [if_neg c1, if_neg (fun h : okE P (l.getD j z0) = true ∧ (l.getD j z0).2.2.1 = i => c1 h.1)]; rfl
    · simp only
      rw [if_neg (by omega)]
  · simp only
    rw [if_neg (by omega)]

theorem m11_eq : m11 () = some (true, ()) := by
  unfold m11
  rw [m14_eq 4 2 _ (by decide) (by decide) (by simp), m16_eq _ (by simp)]
  rfl
end Go.Proofs.Ytefekolpfklhdaa
