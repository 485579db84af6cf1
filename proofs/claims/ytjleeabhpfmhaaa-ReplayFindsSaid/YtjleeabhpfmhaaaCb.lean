/- What the functions of this claim compute, each shown by the kernel, and what that comes to, with no program in sight. No condition. -/
import Derived.Test.YtjleeabhpfmhaaaCa
import Derived.Test.YtjleeabhpfmhaaaAmd
set_option maxRecDepth 2000
set_option linter.unusedVariables false
set_option linter.unusedSimpArgs false
section
namespace Go.Proofs.Ytjleeabhpfmhaaa
open Go Go.Proofs.AM

def tagAt (b : List Int) (i : Nat) : Int × Bool := (((val ((b.drop (14 + 5 * i)).take 4) : Nat) : Int), decide (((val ((b.drop (18 + 5 * i)).take 1) : Nat) : Int) = 1))
def revAt (b : List Int) (i : Nat) : Int := ((val ((b.drop (14 + 4 * i)).take 4) : Nat) : Int)
def tagsOf (b : List Int) (n : Nat) : List (Int × Bool) := (List.range n).map (tagAt b)
def revsOf (b : List Int) (n : Nat) : List Int := (List.range n).map (revAt b)

theorem tagsOf_succ (b : List Int) (n : Nat) : tagsOf b (n + 1) = tagsOf b n ++ [tagAt b n] := by unfold tagsOf; rw [List.range_succ, List.map_append]; rfl
theorem revsOf_succ (b : List Int) (n : Nat) : revsOf b (n + 1) = revsOf b n ++ [revAt b n] := by unfold revsOf; rw [List.range_succ, List.map_append]; rfl
theorem tagsOf_len (b : List Int) (n : Nat) : (tagsOf b n).length = n := by simp [tagsOf]
theorem revsOf_len (b : List Int) (n : Nat) : (revsOf b n).length = n := by simp [revsOf]

def kOf (b : List Int) : Nat := val ((b.drop 4).take 1)
def qOf (b : List Int) : Nat := val ((b.drop 5).take 8)
def nOf (b : List Int) : Nat := val ((b.drop 13).take 1)

def cand (b : List Int) : JB :=
  if kOf b = 1 ∧ nOf b ≤ 48 then (((kOf b : Nat) : Int), (((qOf b : Nat) : Int), (tagsOf b (nOf b), ([], 0))))
  else if kOf b = 3 ∧ nOf b ≤ 60 then (((kOf b : Nat) : Int), (((qOf b : Nat) : Int), ([], (revsOf b (nOf b), 0))))
  else (((kOf b : Nat) : Int), (((qOf b : Nat) : Int), ([], ([], ((nOf b : Nat) : Int)))))

abbrev JR := (Int × (Int × ((List (Int × Bool)) × ((List Int) × Int)))) × (Int × Unit)
def badB : JR := ((0, (0, ([], ([], 0)))), (170, ()))

open Classical in
noncomputable def fin (x : JB) (b : List Int) : JR := if plainB x ∧ encB x = b then (x, (0, ())) else badB

open Classical in
noncomputable def decB (b : List Int) : JR := if b.length = 256 then fin (cand b) b else badB

theorem plain_wrap (k : Int) (q : Nat) (hq : q < 18446744073709551616) (t : List (Int × Bool)) (v : List Int) (c : Int) :
    (plainB (k, (IntKind.wrap .i64 (q : Int), (t, (v, c)))) ↔ plainB (k, ((q : Int), (t, (v, c))))) ∧ (plainB (k, ((q : Int), (t, (v, c)))) → (k, (IntKind.wrap .i64 (q : Int), (t, (v, c)))) = (k, ((q : Int), (t, (v, c))))) := by
  obtain ⟨w1, w2⟩ := okS_wrap 0 q hq
  have e : ∀ z : Int, okS ((0 : Nat) : Int) z ↔ (1 ≤ z ∧ z ≤ 281474976710656) := fun z => ⟨fun h => ⟨h.2.2.1, h.2.2.2⟩, fun h => ⟨by decide, by decide, h.1, h.2⟩⟩
  rw [e, e] at w1
  rw [e] at w2
  refine ⟨and_congr w1 Iff.rfl, fun h => ?_⟩
  have h1 : 1 ≤ (q : Int) ∧ (q : Int) ≤ 281474976710656 := h.1
  rw [w2 h1]

theorem fin38 (x' x : JB) (b : List Int) (hb : Bytes b) (h : (plainB x' ↔ plainB x) ∧ (plainB x → x' = x)) : Ok (Option.bind (m62 (x', ())) fun (y5 : ((List Int) × (Int × Unit))) =>
    bif (!(decide (y5.2.1 = (0 : Int)))) then (some (((0 : Int), ((0 : Int), (([] : List (Int × Bool)), (([] : List Int), (0 : Int))))), ((170 : Int), ())))
    else (Option.bind (m37 (y5.1, (b, ()))) fun (y6 : (Bool × Unit)) =>
      bif (!y6.1) then (some (((0 : Int), ((0 : Int), (([] : List (Int × Bool)), (([] : List Int), (0 : Int))))), ((170 : Int), ())))
      else (some (x', ((0 : Int), ()))))) (fun r => r = fin x b) := by
  rw [m62_ok]
  simp only [Option.bind_some]
  unfold fin
  by_cases hp : plainB x
  · rw [h.2 hp, if_pos hp]
    refine Ok.ncond (fun h => (h rfl).elim) (fun _ => ?_)
    unfold m37
    simp only [Option.bind_some]
    have hin := ofNums_inj (encB_bytes x) hb
    refine Ok.condb (fun h => Ok.some ?_) (fun h => Ok.some ?_)
    · rw [if_neg]; · rfl
      rintro ⟨_, h3⟩
      have := hin.2 h3
      rw [this] at h; simp at h
    · rw [if_pos ⟨hp, hin.1 (by simpa using h)⟩]
  · rw [if_neg (fun h2 => hp (h.1.1 h2)), if_neg (fun h2 => hp h2.1)]
    exact Ok.ncond (fun _ => Ok.some rfl) (fun h => absurd h (by decide))

theorem m35_at (b : List Int) (hb : Bytes b) (a k : Nat) (hk : k ≤ 8) (hl : a + k ≤ b.length) : m35 (b.drop a, ((k : Int), ())) = some (((val ((b.drop a).take k) : Nat) : Int), (b.drop (a + k), ())) := by
  rw [m35_ok (b.drop a) (hb.drop a) k hk (by simp; omega), List.drop_drop]

theorem k_lt {b : List Int} (hb : Bytes b) : kOf b < 256 := val_lt' ((hb.drop 4).take 1) (k := 1) (by simp; omega)
theorem q_lt {b : List Int} (hb : Bytes b) : qOf b < 18446744073709551616 := val_lt' ((hb.drop 5).take 8) (k := 8) (by simp; omega)
theorem n_lt {b : List Int} (hb : Bytes b) : nOf b < 256 := val_lt' ((hb.drop 13).take 1) (k := 1) (by simp; omega)

theorem m38_ok (b : List Int) (hb : Bytes b) : m38 (b, ()) = some (decB b) := by
  apply ok_eq
  unfold m38
  dsimp only
  unfold decB
  refine Ok.ncond (fun h => Ok.some ?_) (fun h => ?_)
  · rw [if_neg (fun h2 => h (by rw [h2]; rfl))]; rfl
  have hl : b.length = 256 := by omega
  rw [if_pos hl]
  have e4 : List.take (Int.toNat ((b.length : Nat) : Int) - Int.toNat 4) (List.drop (Int.toNat 4) b) = b.drop 4 := by
    rw [Int.toNat_natCast]
    exact List.take_of_length_le (by simp)
  refine Ok.gd (by omega) (Ok.gd (by omega) ?_)
  have a1 : m35 (b.drop 4, ((1 : Int), ())) = some (((kOf b : Nat) : Int), (b.drop 5, ())) := m35_at b hb 4 1 (by omega) (by omega)
  have a2 : m35 (b.drop 5, ((8 : Int), ())) = some (((qOf b : Nat) : Int), (b.drop 13, ())) := m35_at b hb 5 8 (by omega) (by omega)
  have a3 : m35 (b.drop 13, ((1 : Int), ())) = some (((nOf b : Nat) : Int), (b.drop 14, ())) := m35_at b hb 13 1 (by omega) (by omega)
  have hk := k_lt hb
  have hq := q_lt hb
  have hn := n_lt hb
  rw [e4, a1]
  simp only [Option.bind_some]
  rw [a2]
  simp only [Option.bind_some]
  rw [a3]
  simp only [Option.bind_some]
  have wk : IntKind.wrap .i64 ((kOf b : Nat) : Int) = ((kOf b : Nat) : Int) := wrap64 (by omega) (by omega)
  have wn : IntKind.wrap .i64 ((nOf b : Nat) : Int) = ((nOf b : Nat) : Int) := wrap64 (by omega) (by omega)
  have hpw := plain_wrap ((kOf b : Nat) : Int) (qOf b) hq
  simp only [wk, wn]
  have revs : kOf b = 3 → nOf b ≤ 60 → cand b = (((kOf b : Nat) : Int), (((qOf b : Nat) : Int), ([], (revsOf b (nOf b), 0)))) := fun h1 h2 => by
    unfold cand; rw [if_neg (by omega), if_pos ⟨h1, h2⟩]
  have rest : ¬ (kOf b = 1 ∧ nOf b ≤ 48) → ¬ (kOf b = 3 ∧ nOf b ≤ 60) → cand b = (((kOf b : Nat) : Int), (((qOf b : Nat) : Int), ([], ([], ((nOf b : Nat) : Int))))) := fun h1 h2 => by
    unfold cand; rw [if_neg h1, if_neg h2]
  refine Ok.cond (fun h1 => Ok.cond (fun h2 => ?_) (fun h2 => Ok.cond (fun h3 => absurd h3 (by omega)) (fun h3 => ?_))) (fun h1 => Ok.cond (fun h3 => Ok.cond (fun h4 => ?_) (fun h4 => ?_)) (fun h3 => ?_))
  · have hc : cand b = (((kOf b : Nat) : Int), (((qOf b : Nat) : Int), (tagsOf b (nOf b), ([], 0)))) := by
      unfold cand; rw [if_pos (by omega)]
    rw [hc]
    refine Ok.bind (S := fun r => r = (((kOf b : Nat) : Int), (IntKind.wrap .i64 ((qOf b : Nat) : Int), (tagsOf b (nOf b), (([] : List Int), (0 : Int)))))) ?_ (fun r hr => ?_)
    rotate_left
    · subst hr
      exact fin38 _ _ b hb (hpw _ _ _)
    refine Ok.loop (nOf b) (fun i x => x = (b.drop (14 + 5 * i), ((i : Int), (((kOf b : Nat) : Int), (IntKind.wrap .i64 ((qOf b : Nat) : Int), (tagsOf b i, (([] : List Int), (0 : Int)))))))) rfl ?_
    rintro i x hi rfl
    refine Ok.cond (fun hc => ?_) (fun hc => ?_)
    rotate_left
    · simp only at hc
      obtain rfl : i = nOf b := by omega
      exact Ok.inr rfl
    have hi' : i < nOf b := by simp only at hc; omega
    have c1 : m35 (b.drop (14 + 5 * i), ((4 : Int), ())) = some (((val ((b.drop (14 + 5 * i)).take 4) : Nat) : Int), (b.drop (18 + 5 * i), ())) := by
      have := m35_at b hb (14 + 5 * i) 4 (by omega) (by omega)
      rw [show 14 + 5 * i + 4 = 18 + 5 * i by omega] at this
      exact this
    have c2 : m35 (b.drop (18 + 5 * i), ((1 : Int), ())) = some (((val ((b.drop (18 + 5 * i)).take 1) : Nat) : Int), (b.drop (14 + 5 * (i + 1)), ())) := by
      have := m35_at b hb (18 + 5 * i) 1 (by omega) (by omega)
      rw [show 18 + 5 * i + 1 = 14 + 5 * (i + 1) by omega] at this
      exact this
    have v1 := val_lt' ((hb.drop (14 + 5 * i)).take 4) (k := 4) (by simp; omega)
    have hll := tagsOf_len b i
    dsimp only
    rw [c1]
    simp only [Option.bind_some]
    rw [c2]
    simp only [Option.bind_some, List.length_cons, List.length_nil]
    refine Ok.gd (by omega) (Ok.gd (by omega) (Ok.inl ⟨hi', ?_⟩))
    rw [wrapU64 (by omega) (by omega), wrap64 (n := ((val ((b.drop (14 + 5 * i)).take 4) : Nat) : Int)) (by omega) (by omega), tagsOf_succ]
    rfl
  · rw [rest (by omega) (by omega)]
    exact fin38 _ _ b hb (hpw _ _ _)
  · rw [revs (by omega) (by omega)]
    refine Ok.bind (S := fun r => r = (((kOf b : Nat) : Int), (IntKind.wrap .i64 ((qOf b : Nat) : Int), (([] : List (Int × Bool)), (revsOf b (nOf b), (0 : Int)))))) ?_ (fun r hr => ?_)
    rotate_left
    · subst hr
      exact fin38 _ _ b hb (hpw _ _ _)
    refine Ok.loop (nOf b) (fun i x => x = (b.drop (14 + 4 * i), ((i : Int), (((kOf b : Nat) : Int), (IntKind.wrap .i64 ((qOf b : Nat) : Int), (([] : List (Int × Bool)), (revsOf b i, (0 : Int)))))))) rfl ?_
    rintro i x hi rfl
    refine Ok.cond (fun hc => ?_) (fun hc => ?_)
    rotate_left
    · simp only at hc
      obtain rfl : i = nOf b := by omega
      exact Ok.inr rfl
    have hi' : i < nOf b := by simp only at hc; omega
    have c1 : m35 (b.drop (14 + 4 * i), ((4 : Int), ())) = some (((val ((b.drop (14 + 4 * i)).take 4) : Nat) : Int), (b.drop (14 + 4 * (i + 1)), ())) := by
      have := m35_at b hb (14 + 4 * i) 4 (by omega) (by omega)
      rw [show 14 + 4 * i + 4 = 14 + 4 * (i + 1) by omega] at this
      exact this
    have v1 := val_lt' ((hb.drop (14 + 4 * i)).take 4) (k := 4) (by simp; omega)
    have hll := revsOf_len b i
    dsimp only
    rw [c1]
    simp only [Option.bind_some, List.length_cons, List.length_nil]
    refine Ok.gd (by omega) (Ok.gd (by omega) (Ok.inl ⟨hi', ?_⟩))
    rw [wrapU64 (by omega) (by omega), wrap64 (n := ((val ((b.drop (14 + 4 * i)).take 4) : Nat) : Int)) (by omega) (by omega), revsOf_succ]
    rfl
  · rw [rest (by omega) (by omega)]
    exact fin38 _ _ b hb (hpw _ _ _)
  · rw [rest (by omega) (by omega)]
    exact fin38 _ _ b hb (hpw _ _ _)

end Go.Proofs.Ytjleeabhpfmhaaa
end

section
namespace Go.Proofs.Ytjleeabhpfmhaaa
open Go Go.Proofs.AM

abbrev TX := Int × ((List (Int × (List Int))) × (List Int))

def num (t : TX) (j : Nat) : Int := if j < t.2.1.length then (t.2.1.getD j (0, [])).1 else t.2.2.getD (j - t.2.1.length) 0
def tot (t : TX) : Nat := t.2.1.length + t.2.2.length
def size (t : TX) : Nat := (t.2.2.length + 59) / 60 + (t.2.1.length + 47) / 48 + t.2.1.length + 1

def GoodT (t : TX) (i : Nat) : Prop :=
  (∀ j, j < i → isBlk (num t j)) ∧ (∀ j, j < i → j < t.2.1.length → (t.2.1.getD j (0, [])).2.length = 256) ∧ (∀ j k, j < k → k < i → num t j ≠ num t k)

theorem GoodT.zero (t : TX) : GoodT t 0 := ⟨fun j h => by omega, fun j h => by omega, fun j k _ h => by omega⟩
theorem GoodT.mono {t : TX} {i j : Nat} (h : GoodT t i) (hj : j ≤ i) : GoodT t j := ⟨fun k hk => h.1 k (by omega), fun k hk => h.2.1 k (by omega), fun k m h1 h2 => h.2.2 k m h1 (by omega)⟩
theorem GoodT.succ {t : TX} {i : Nat} (h : GoodT t i) (h1 : isBlk (num t i)) (h2 : i < t.2.1.length → (t.2.1.getD i (0, [])).2.length = 256) (h3 : ∀ j, j < i → num t j ≠ num t i) : GoodT t (i + 1) := by
  refine ⟨fun j hj => ?_, fun j hj hw => ?_, fun j k hjk hk => ?_⟩
  · by_cases e : j = i
    · subst e; exact h1
    · exact h.1 j (by omega)
  · by_cases e : j = i
    · subst e; exact h2 hw
    · exact h.2.1 j (by omega) hw
  · by_cases e : k = i
    · subst e; exact h3 j hjk
    · exact h.2.2 j k hjk (by omega)

def okT (t : TX) : Prop := (1 ≤ t.1 ∧ t.1 ≤ 281474976710656) ∧ tot t ≠ 0 ∧ size t ≤ 63 ∧ GoodT t (tot t)

theorem okT_facts {t : TX} (h : okT t) : t.2.1.length ≤ 62 ∧ t.2.2.length ≤ 3720 := by
  have := h.2.2.1
  unfold size at this
  omega

theorem tdiv60 (p : Nat) : Int.tdiv (p : Int) 60 = ((p / 60 : Nat) : Int) := rfl
theorem tdiv48 (p : Nat) : Int.tdiv (p : Int) 48 = ((p / 48 : Nat) : Int) := rfl

theorem ceil60 {n : Nat} (h : n ≤ 140737488355328) : IntKind.wrap .i64 (Int.tdiv (IntKind.wrap .i64 (IntKind.wrap .i64 ((n : Int) + 60) - 1)) 60) = (((n + 59) / 60 : Nat) : Int) := by
  rw [wrap64 (n := (n : Int) + 60) (by omega) (by omega), show (n : Int) + 60 - 1 = ((n + 59 : Nat) : Int) by omega, wrap64 (n := ((n + 59 : Nat) : Int)) (by omega) (by omega), tdiv60, wrap64 (by omega) (by omega)]
theorem ceil48 {n : Nat} (h : n ≤ 140737488355328) : IntKind.wrap .i64 (Int.tdiv (IntKind.wrap .i64 (IntKind.wrap .i64 ((n : Int) + 48) - 1)) 48) = (((n + 47) / 48 : Nat) : Int) := by
  rw [wrap64 (n := (n : Int) + 48) (by omega) (by omega), show (n : Int) + 48 - 1 = ((n + 47 : Nat) : Int) by omega, wrap64 (n := ((n + 47 : Nat) : Int)) (by omega) (by omega), tdiv48, wrap64 (by omega) (by omega)]

theorem m73_ok (t : TX) (hw : t.2.1.length ≤ 140737488355328) (hr : t.2.2.length ≤ 140737488355328) : m73 (t, ()) = some (((size t : Nat) : Int), ()) := by
  unfold m73 m87
  simp only [show ¬ ((60 : Int) = 0) by decide, show ¬ ((48 : Int) = 0) by decide, if_false, Option.bind_some]
  rw [ceil60 hr, ceil48 hw]
  unfold size
  rw [wrap64 (n := (((t.2.2.length + 59) / 60 : Nat) : Int) + (((t.2.1.length + 47) / 48 : Nat) : Int)) (by omega) (by omega), wrap64 (n := (((t.2.2.length + 59) / 60 : Nat) : Int) + (((t.2.1.length + 47) / 48 : Nat) : Int) + ((t.2.1.length : Nat) : Int)) (by omega) (by omega),
    wrap64 (n := (((t.2.2.length + 59) / 60 : Nat) : Int) + (((t.2.1.length + 47) / 48 : Nat) : Int) + ((t.2.1.length : Nat) : Int) + 1) (by omega) (by omega)]
  push_cast; rfl

theorem m56_ok (t : TX) (hw : t.2.1.length ≤ 140737488355328) (hr : t.2.2.length ≤ 140737488355328) : m56 (t, ()) = some (((size t : Nat) : Int), ()) := by
  unfold m56 m79
  simp only [show ¬ ((60 : Int) = 0) by decide, show ¬ ((48 : Int) = 0) by decide, if_false, Option.bind_some]
  rw [ceil60 hr, ceil48 hw]
  unfold size
  rw [wrap64 (n := (((t.2.2.length + 59) / 60 : Nat) : Int) + (((t.2.1.length + 47) / 48 : Nat) : Int)) (by omega) (by omega), wrap64 (n := (((t.2.2.length + 59) / 60 : Nat) : Int) + (((t.2.1.length + 47) / 48 : Nat) : Int) + ((t.2.1.length : Nat) : Int)) (by omega) (by omega),
    wrap64 (n := (((t.2.2.length + 59) / 60 : Nat) : Int) + (((t.2.1.length + 47) / 48 : Nat) : Int) + ((t.2.1.length : Nat) : Int) + 1) (by omega) (by omega)]
  push_cast; rfl

def Seen (t : TX) (es : List (Int × Bool)) (i : Nat) : Prop := ∀ n : Int, (ifind es n).getD false = true ↔ ∃ j, j < i ∧ num t j = n

theorem Seen.zero (t : TX) : Seen t [] 0 := fun n => by simp [ifind]
theorem Seen.succ {t : TX} {es : List (Int × Bool)} {i : Nat} (h : Seen t es i) : Seen t (mset (false, .int .i64) es (num t i) true) (i + 1) := by
  intro n
  rw [mset_ifind]
  by_cases e : n = num t i
  · rw [if_pos e]
    exact ⟨fun _ => ⟨i, by omega, e.symm⟩, fun _ => rfl⟩
  · rw [if_neg e, h n]
    constructor
    · rintro ⟨j, hj, e2⟩; exact ⟨j, by omega, e2⟩
    · rintro ⟨j, hj, e2⟩
      refine ⟨j, ?_, e2⟩
      by_cases e3 : j = i
      · subst e3; exact absurd e2.symm e
      · omega

theorem num_w {t : TX} {i : Nat} (h : i < t.2.1.length) : num t i = (t.2.1.getD i (0, [])).1 := by unfold num; rw [if_pos h]
theorem num_r {t : TX} (i : Nat) : num t (t.2.1.length + i) = t.2.2.getD i 0 := by unfold num; rw [if_neg (by omega), Nat.add_sub_cancel_left]

open Classical in
theorem m51_ok (t : TX) (hw : t.2.1.length ≤ 140737488355328) (hr : t.2.2.length ≤ 140737488355328) : m51 (t, ()) = some (if okT t then (0, ()) else (171, ())) := by
  apply ok_eq
  unfold m51
  rw [m58_ok, m73_ok t hw hr]
  dsimp only [Option.bind_some]
  refine Ok.ncond (fun h => Ok.some ?_) (fun hq => ?_)
  · rw [if_neg (fun h2 => h h2.1)]
  have wt : IntKind.wrap .i64 (((t.2.1.length : Nat) : Int) + ((t.2.2.length : Nat) : Int)) = ((tot t : Nat) : Int) := by rw [wrap64 (by omega) (by omega)]; unfold tot; push_cast; rfl
  rw [wt]
  refine Ok.cond (fun h => Ok.some ?_) (fun ht => Ok.cond (fun h => Ok.some ?_) (fun hs => ?_))
  · rw [if_neg (fun h2 => h2.2.1 (by omega))]
  · rw [if_neg (fun h2 => by have := h2.2.2.1; omega)]
  refine Ok.bind (S := fun r => (∃ es, r = .inl es ∧ GoodT t t.2.1.length ∧ Seen t es t.2.1.length) ∨ ((∃ es, r = .inr (171, es)) ∧ ¬ okT t)) ?_ ?_
  · refine Ok.loop t.2.1.length (fun i x => ∃ es, x = ((i : Int), es) ∧ GoodT t i ∧ Seen t es i) ⟨[], rfl, GoodT.zero t, Seen.zero t⟩ ?_
    rintro i x hi ⟨es, rfl, hg, hse⟩
    refine Ok.cond (fun hc => ?_) (fun hc => ?_)
    rotate_left
    · simp only at hc
      obtain rfl : i = t.2.1.length := by omega
      exact Ok.inr (.inl ⟨es, rfl, hg, hse⟩)
    have hi' : i < t.2.1.length := by simp only at hc; omega
    refine Ok.gd (by simp only; omega) (Ok.gd hc ?_)
    simp only [Int.toNat_natCast, mget_ifind]
    rw [← num_w hi', m75_ok]
    simp only [Option.bind_some]
    have bad : ¬ GoodT t (i + 1) → ¬ okT t := fun h h2 => h (h2.2.2.2.mono (by unfold tot; omega))
    refine Ok.cond (fun hb => Ok.condb (fun hsn => ?_) (fun hsn => Ok.ncond (fun hl => ?_) (fun hl => ?_))) (fun hb => ?_)
    · refine Ok.inr (.inr ⟨⟨_, rfl⟩, bad fun h => ?_⟩)
      obtain ⟨j, hj, e⟩ := (hse _).1 (by simpa using hsn)
      exact h.2.2 j i hj (by omega) e
    · exact Ok.inr (.inr ⟨⟨_, rfl⟩, bad fun h => hl (by rw [h.2.1 i (by omega) hi']; rfl)⟩)
    · refine Ok.inl ⟨hi', _, ?_, hg.succ hb (fun _ => by omega) (fun j hj e => ?_), hse.succ⟩
      · rw [wsucc (by omega)]
      · have := (hse _).2 ⟨j, hj, e⟩
        simp [this] at hsn
    · exact Ok.inr (.inr ⟨⟨_, rfl⟩, bad fun h => hb (h.1 i (by omega))⟩)
  rintro r (⟨es, rfl, hg, hse⟩ | ⟨⟨es, rfl⟩, hno⟩)
  rotate_left
  · exact Ok.some (by rw [if_neg hno])
  show Ok (Option.bind _ _) _
  refine Ok.bind (S := fun r => (∃ es, r = .inl es ∧ okT t) ∨ ((∃ es, r = .inr (171, es)) ∧ ¬ okT t)) ?_ ?_
  · refine Ok.loop t.2.2.length (fun i x => ∃ es, x = ((i : Int), es) ∧ GoodT t (t.2.1.length + i) ∧ Seen t es (t.2.1.length + i)) ⟨es, rfl, hg, hse⟩ ?_
    rintro i x hi ⟨es, rfl, hg, hse⟩
    refine Ok.cond (fun hc => ?_) (fun hc => ?_)
    rotate_left
    · simp only at hc
      obtain rfl : i = t.2.2.length := by omega
      exact Ok.inr (.inl ⟨es, rfl, hq, by omega, by omega, hg⟩)
    have hi' : i < t.2.2.length := by simp only at hc; omega
    refine Ok.gd (by simp only; omega) (Ok.gd hc ?_)
    simp only [Int.toNat_natCast, mget_ifind]
    rw [← num_r, m75_ok]
    simp only [Option.bind_some]
    have bad : ¬ GoodT t (t.2.1.length + i + 1) → ¬ okT t := fun h h2 => h (h2.2.2.2.mono (by unfold tot; omega))
    refine Ok.cond (fun hb => Ok.condb (fun hsn => ?_) (fun hsn => ?_)) (fun hb => ?_)
    · refine Ok.inr (.inr ⟨⟨_, rfl⟩, bad fun h => ?_⟩)
      obtain ⟨j, hj, e⟩ := (hse _).1 (by simpa using hsn)
      exact h.2.2 j (t.2.1.length + i) hj (by omega) e
    · refine Ok.inl ⟨hi', _, ?_, hg.succ hb (fun h => by omega) (fun j hj e => ?_), hse.succ⟩
      · rw [wsucc (by omega)]
      · have := (hse _).2 ⟨j, hj, e⟩
        simp [this] at hsn
    · exact Ok.inr (.inr ⟨⟨_, rfl⟩, bad fun h => hb (h.1 (t.2.1.length + i) (by omega))⟩)
  rintro r (⟨es, rfl, h⟩ | ⟨⟨es, rfl⟩, hno⟩)
  · exact Ok.some (by rw [if_pos h])
  · exact Ok.some (by rw [if_neg hno])

def SeenB (t : TX) (l : List Bool) (i : Nat) : Prop := l.length = 8192 ∧ ∀ n : Nat, l.getD n false = true ↔ ∃ j, j < i ∧ num t j = (n : Int)

theorem getD_setB {l : List Bool} {i j : Nat} {y : Bool} (h : i < l.length) : (l.set i y).getD j false = if j = i then y else l.getD j false := by
  rw [List.getD_eq_getElem?_getD, List.getElem?_set]
  by_cases e : i = j
  · subst e; simp [h]
  · rw [if_neg e, if_neg (fun h => e h.symm), List.getD_eq_getElem?_getD]

theorem SeenB.zero (t : TX) : SeenB t (List.replicate (Int.toNat 8192) false) 0 := by
  refine ⟨List.length_replicate.trans (by decide), fun n => ⟨fun h => ?_, fun ⟨j, hj, _⟩ => by omega⟩⟩
  rw [List.getD_eq_getElem?_getD, List.getElem?_replicate] at h
  split at h <;> simp at h

theorem SeenB.succ {t : TX} {l : List Bool} {i : Nat} (h : SeenB t l i) (hb : isBlk (num t i)) : SeenB t (l.set (num t i).toNat true) (i + 1) := by
  obtain ⟨b0, b1⟩ := hb
  refine ⟨by rw [List.length_set]; exact h.1, fun n => ?_⟩
  rw [getD_setB (by rw [h.1]; omega)]
  by_cases e : n = (num t i).toNat
  · rw [if_pos e]
    exact ⟨fun _ => ⟨i, by omega, by omega⟩, fun _ => rfl⟩
  · rw [if_neg e, h.2 n]
    constructor
    · rintro ⟨j, hj, e2⟩; exact ⟨j, by omega, e2⟩
    · rintro ⟨j, hj, e2⟩
      refine ⟨j, ?_, e2⟩
      by_cases e3 : j = i
      · subst e3; omega
      · omega

open Classical in
theorem m31_ok (t : TX) (hw : t.2.1.length ≤ 140737488355328) (hr : t.2.2.length ≤ 140737488355328) : m31 (t, ()) = some (if okT t then (0, ()) else (171, ())) := by
  apply ok_eq
  unfold m31
  rw [m56_ok t hw hr]
  dsimp only [Option.bind_some]
  have wt : IntKind.wrap .i64 (((t.2.1.length : Nat) : Int) + ((t.2.2.length : Nat) : Int)) = ((tot t : Nat) : Int) := by rw [wrap64 (by omega) (by omega)]; unfold tot; push_cast; rfl
  rw [wt]
  refine Ok.cond (fun h => Ok.some ?_) (fun h1 => Ok.cond (fun h => Ok.some ?_) (fun h2 => Ok.cond (fun h => Ok.some ?_) (fun ht => Ok.cond (fun h => Ok.some ?_) (fun hs => Ok.gd (by decide) ?_))))
  · rw [if_neg (fun h2 => by have := h2.1; omega)]
  · rw [if_neg (fun h2 => by have := h2.1; omega)]
  · rw [if_neg (fun h2 => h2.2.1 (by omega))]
  · rw [if_neg (fun h2 => by have := h2.2.2.1; omega)]
  refine Ok.bind (S := fun r => (∃ es, r = .inl es ∧ okT t) ∨ ((∃ es, r = .inr (171, es)) ∧ ¬ okT t)) ?_ ?_
  rotate_left
  · rintro r (⟨es, rfl, h⟩ | ⟨⟨es, rfl⟩, hno⟩)
    · exact Ok.some (by rw [if_pos h])
    · exact Ok.some (by rw [if_neg hno])
  refine Ok.loop (tot t) (fun i x => ∃ es, x = ((i : Int), es) ∧ GoodT t i ∧ SeenB t es i) ⟨_, rfl, GoodT.zero t, SeenB.zero t⟩ ?_
  rintro i x hi ⟨es, rfl, hg, hse⟩
  refine Ok.cond (fun hc => ?_) (fun hc => ?_)
  rotate_left
  · simp only at hc
    obtain rfl : i = tot t := by omega
    exact Ok.inr (.inl ⟨es, rfl, ⟨by omega, by omega⟩, by omega, by omega, hg⟩)
  have hi' : i < tot t := by simp only at hc; omega
  have bad : ¬ GoodT t (i + 1) → ¬ okT t := fun h h2 => h (h2.2.2.2.mono (by omega))
  refine Ok.cond (fun hiw => ?_) (fun hiw => ?_)
  · have hiw' : i < t.2.1.length := by simp only at hiw; omega
    refine Ok.gd (by simp only; omega) (Ok.gd hiw (Ok.gd (by simp only; omega) (Ok.gd hiw ?_)))
    simp only [Int.toNat_natCast]
    simp only [← num_w hiw']
    rw [m57_ok]
    simp only [Option.bind_some]
    refine Ok.ncond (fun hl => ?_) (fun hl => Ok.ncond (fun hb => ?_) (fun hb => ?_))
    · exact Ok.inr (.inr ⟨⟨_, rfl⟩, bad fun h => hl (by rw [h.2.1 i (by omega) hiw']; rfl)⟩)
    · exact Ok.inr (.inr ⟨⟨_, rfl⟩, bad fun h => hb (h.1 i (by omega))⟩)
    · have hb0 := hb.1
      have hb1 := hb.2
      have hlen := hse.1
      refine Ok.gd hb0 (Ok.gd (by omega) (Ok.gd (by omega) (Ok.condb (fun hsn => ?_) (fun hsn => Ok.gd hb0 (Ok.gd (by omega) (Ok.gd (by omega) ?_))))))
      · refine Ok.inr (.inr ⟨⟨_, rfl⟩, bad fun h => ?_⟩)
        obtain ⟨j, hj, e⟩ := (hse.2 _).1 hsn
        exact h.2.2 j i hj (by omega) (by omega)
      · refine Ok.inl ⟨hi', _, ?_, hg.succ hb (fun _ => by omega) (fun j hj e => ?_), hse.succ hb⟩
        · rw [wsucc (by unfold tot at hi'; omega)]
        · have := (hse.2 (num t i).toNat).2 ⟨j, hj, by omega⟩
          rw [this] at hsn
          simp at hsn
  · have hiw' : t.2.1.length ≤ i := by simp only at hiw; omega
    obtain ⟨m, rfl⟩ : ∃ m, i = t.2.1.length + m := ⟨i - t.2.1.length, by omega⟩
    have hm : m < t.2.2.length := by unfold tot at hi'; omega
    have wm : IntKind.wrap .i64 (((t.2.1.length + m : Nat) : Int) - ((t.2.1.length : Nat) : Int)) = (m : Int) := by rw [wrap64 (by omega) (by omega)]; omega
    dsimp only
    rw [wm]
    refine Ok.gd (by omega) (Ok.gd (by omega) ?_)
    simp only [Int.toNat_natCast]
    simp only [← num_r]
    rw [m57_ok]
    simp only [Option.bind_some]
    refine Ok.ncond (fun hb => ?_) (fun hb => ?_)
    · exact Ok.inr (.inr ⟨⟨_, rfl⟩, bad fun h => hb (h.1 _ (by omega))⟩)
    · have hb0 := hb.1
      have hb1 := hb.2
      have hlen := hse.1
      refine Ok.gd hb0 (Ok.gd (by omega) (Ok.gd (by omega) (Ok.condb (fun hsn => ?_) (fun hsn => Ok.gd hb0 (Ok.gd (by omega) (Ok.gd (by omega) ?_))))))
      · refine Ok.inr (.inr ⟨⟨_, rfl⟩, bad fun h => ?_⟩)
        obtain ⟨j, hj, e⟩ := (hse.2 _).1 hsn
        exact h.2.2 j (t.2.1.length + m) hj (by omega) (by omega)
      · refine Ok.inl ⟨hi', _, ?_, hg.succ hb (fun h => by omega) (fun j hj e => ?_), hse.succ hb⟩
        · rw [wsucc (by unfold tot at hi'; omega)]
        · have := (hse.2 (num t (t.2.1.length + m)).toNat).2 ⟨j, hj, by omega⟩
          rw [this] at hsn
          simp at hsn
end Go.Proofs.Ytjleeabhpfmhaaa
end

section
namespace Go.Proofs.Ytjleeabhpfmhaaa
open Go Go.Proofs.AM

def MG : List Int := [83, 76, 74, 33]

theorem MG_bytes : Bytes MG := by unfold Bytes MG; decide

theorem m52_ok (l : List Int) (hl : l.length ≤ 140737488355328) : m52 (l, ()) = some (l, ()) := by
  have e2 : gd ((((List.length ([] : List Int)) + (List.length l)) * 1) ≤ 140737488355328) (gd (((List.length ([] : List Int)) + (List.length l)) ≤ 140737488355328) (some ((([] : List Int) ++ l), ()))) = some (l, ()) := by
    rw [gd_pos (by simp; omega), gd_pos (by simp; omega)]; rfl
  have e1 : (bif (decide ((((List.length l) : Nat) : Int) = (0 : Int))) then
      (some (([] : List Int), ()))
    else
      (gd ((((List.length ([] : List Int)) + (List.length l)) * 1) ≤ 140737488355328) (gd (((List.length ([] : List Int)) + (List.length l)) ≤ 140737488355328) (some ((([] : List Int) ++ l), ()))))) = some (l, ()) := by
    rw [e2]
    by_cases h : ((l.length : Nat) : Int) = 0
    · have : l = [] := List.length_eq_zero_iff.1 (by omega)
      rw [decide_eq_true h, this]; rfl
    · rw [decide_eq_false h]; rfl
  unfold m52
  dsimp only
  rw [e1, e2]
  unfold both
  rw [if_pos rfl]

theorem m63_ok : m63 () = some (MG, ()) := by
  unfold m63
  have b1 : m61 ([], ((1397508641 : Int), ((4 : Int), ()))) = some ([] ++ be 1397508641 4) := m61_ok [] 1397508641 4 (by omega) (by simp)
  rw [b1]; rfl

def esc (b : List Int) : List Int × Bool := if b.take 4 = MG then (List.replicate 4 0 ++ b.drop 4, true) else (b, false)
def unesc (b : List Int) (e : Bool) : List Int := if e = true ∧ 4 ≤ b.length then MG ++ b.drop 4 else b

theorem esc_bytes {b : List Int} (h : Bytes b) : Bytes (esc b).1 := by
  unfold esc
  split
  · exact (Bytes.zeros 4).app (h.drop 4)
  · exact h
theorem unesc_bytes {b : List Int} {e : Bool} (h : Bytes b) : Bytes (unesc b e) := by
  unfold unesc
  split
  · exact MG_bytes.app (h.drop 4)
  · exact h
theorem esc_len {b : List Int} : (esc b).1.length = b.length := by
  unfold esc
  split
  · rename_i h
    have := congrArg List.length h
    simp [MG] at this
    simp; omega
  · rfl
theorem unesc_len {b : List Int} {e : Bool} : (unesc b e).length = b.length := by
  unfold unesc
  split
  · rename_i h
    simp [MG]; omega
  · rfl
theorem unesc_esc (b : List Int) : unesc (esc b).1 (esc b).2 = b := by
  unfold esc
  split
  · rename_i h
    have := congrArg List.length h
    simp [MG] at this
    unfold unesc
    rw [if_pos ⟨rfl, by simp⟩]
    show MG ++ (List.replicate 4 0 ++ b.drop 4).drop 4 = b
    rw [List.drop_append, ← h]
    simp
  · unfold unesc
    rw [if_neg (by simp)]

theorem m67_ok (b : List Int) (hb : Bytes b) (hl : b.length ≤ 140737488355328) : m67 (b, ()) = some ((esc b).1, ((esc b).2, ())) := by
  apply ok_eq
  unfold m67
  rw [m52_ok b hl]
  simp only [Option.bind_some]
  rw [m63_ok]
  simp only [Option.bind_some]
  have h85 : Ok (m85 (b, (MG, ()))) (fun r => r.1 = true ↔ b.take 4 = MG) := by
    unfold m85
    dsimp only
    have hM : MG.length = 4 := rfl
    rw [hM]
    refine Ok.cond (fun h => ?_) (fun h => Ok.some ⟨fun h2 => by simp at h2, fun h2 => ?_⟩)
    · refine Ok.gd (by omega) (Ok.gd (by omega) ?_)
      unfold m37
      exact Ok.some (ofNums_inj (hb.take 4) MG_bytes)
    · have := congrArg List.length h2
      simp [MG] at this
      omega
  refine Ok.bind h85 fun r hr => ?_
  unfold esc
  refine Ok.condb (fun h => Ok.some ?_) (fun h => ?_)
  · rw [if_neg (fun h2 => by rw [hr.2 h2] at h; simp at h)]
  · have h2 := hr.1 (by simpa using h)
    have := congrArg List.length h2
    simp [MG] at this
    rw [if_pos h2]
    refine Ok.gd (by omega) (Ok.gd ?_ (Ok.some ?_))
    · show 0 + (4 - 0) ≤ b.length
      omega
    · rfl

theorem set_mid (a : List Int) (x y : Int) (c : List Int) : (a ++ x :: c).set a.length y = a ++ y :: c := by simp [List.set_append]

theorem drop_head (b : List Int) (i : Nat) (h : i < b.length) : ∃ x, b.drop i = x :: b.drop (i + 1) := ⟨b[i], List.drop_eq_getElem_cons h⟩

theorem m47_ok (b : List Int) (hb : Bytes b) (hl : b.length ≤ 140737488355328) : m47 (b, ()) = some ((esc b).1, ((esc b).2, ())) := by
  apply ok_eq
  unfold m47 m70
  dsimp only
  simp only [List.nil_append, List.length_nil]
  refine Ok.gd (by omega) (Ok.gd (by omega) (Ok.cond (fun h => Ok.some ?_) (fun h => Ok.gd (by omega) ?_)))
  · unfold esc
    rw [if_neg (fun h2 => by have := congrArg List.length h2; simp [MG] at this; omega)]
  simp only [Option.bind_some]
  have e4 : List.take (Int.toNat 4 - Int.toNat 0) (List.drop (Int.toNat 0) b) = b.take 4 := rfl
  have hin := ofNums_inj (hb.take 4) MG_bytes
  rw [e4]
  unfold esc
  refine Ok.condb (fun h => Ok.some ?_) (fun h => ?_)
  · rw [if_neg (fun h2 => ?_)]
    have h3 := hin.2 h2
    have h' : (!streq (strOfNums (b.take 4)) (strOfNums MG)) = true := h
    rw [h3] at h'; simp at h'
  have h' : (!streq (strOfNums (b.take 4)) (strOfNums MG)) = false := h
  rw [if_pos (hin.1 (by simpa using h'))]
  refine Ok.bind (S := fun r => r = List.replicate 4 0 ++ b.drop 4) ?_ (fun r hr => Ok.some (by rw [hr]))
  refine Ok.loop 4 (fun i x => x = ((i : Int), List.replicate i 0 ++ b.drop i)) rfl ?_
  rintro i x hi rfl
  have hlen : (List.replicate i (0 : Int) ++ b.drop i).length = b.length := by simp; omega
  refine Ok.cond (fun hc => ?_) (fun hc => ?_)
  rotate_left
  · obtain rfl : i = 4 := by simp only at hc; omega
    exact Ok.inr rfl
  simp only at hc
  refine Ok.gd (by simp only; omega) (Ok.gd (by simp only [hlen]; omega) (Ok.gd (by simp only [hlen]; omega) (Ok.inl ⟨by omega, ?_⟩)))
  obtain ⟨x, hx⟩ := drop_head b i (by omega)
  simp only [Int.toNat_natCast]
  rw [wsucc (by omega), hx]
  have := set_mid (List.replicate i 0) x 0 (b.drop (i + 1))
  rw [List.length_replicate] at this
  rw [this, List.replicate_succ', List.append_assoc]; rfl

theorem m39_ok (b : List Int) (e : Bool) (hl : b.length ≤ 140737488355328) : m39 (b, (e, ())) = some (unesc b e, ()) := by
  apply ok_eq
  unfold m39
  rw [m52_ok b hl]
  simp only [Option.bind_some]
  unfold unesc
  refine Ok.condb (fun h => Ok.cond (fun h2 => ?_) (fun h2 => Ok.some ?_)) (fun h => Ok.some ?_)
  · rw [m63_ok]
    simp only [Option.bind_some]
    rw [if_pos ⟨h, by omega⟩]
    have : MG.take b.length = MG := List.take_of_length_le (by show 4 ≤ _; omega)
    rw [this]
    exact Ok.some rfl
  · rw [if_neg (fun h3 => by omega)]
  · rw [if_neg (fun h3 => by rw [h] at h3; simp at h3)]

end Go.Proofs.Ytjleeabhpfmhaaa
end

section
namespace Go.Proofs.Ytjleeabhpfmhaaa
open Go Go.Proofs.AM

def tagOf (p : Int × List Int) : Int × Bool := (p.1, (esc p.2).2)
def cpy (p : Int × List Int) : List Int := (esc p.2).1
def rx (q : Int) (v : List Int) (i : Nat) : JB := (3, (q, ([], ((v.drop (60 * i)).take 60, 0))))
def dx (q : Int) (w : List (Int × List Int)) (i : Nat) : JB := (1, (q, (((w.drop (48 * i)).take 48).map tagOf, ([], 0))))
def rblks (q : Int) (v : List Int) (k : Nat) : List (List Int) := (List.range k).map fun i => encB (rx q v i)
def dgrp (q : Int) (w : List (Int × List Int)) (i : Nat) : List (List Int) := encB (dx q w i) :: ((w.drop (48 * i)).take 48).map cpy
def dgrps (q : Int) (w : List (Int × List Int)) (k : Nat) : List (List Int) := (List.range k).flatMap (dgrp q w)
def kR (t : TX) : Nat := (t.2.2.length + 59) / 60
def kW (t : TX) : Nat := (t.2.1.length + 47) / 48
def body (t : TX) : List (List Int) := rblks t.1 t.2.2 (kR t) ++ dgrps t.1 t.2.1 (kW t)
def cx (t : TX) : JB := (2, (t.1, ([], ([], (((body t).length + 1 : Nat) : Int)))))
def packB (t : TX) : List (List Int) := body t ++ [encB (cx t)]

theorem rblks_succ (q : Int) (v : List Int) (k : Nat) : rblks q v (k + 1) = rblks q v k ++ [encB (rx q v k)] := by unfold rblks; rw [List.range_succ, List.map_append]; rfl
theorem dgrps_succ (q : Int) (w : List (Int × List Int)) (k : Nat) : dgrps q w (k + 1) = dgrps q w k ++ dgrp q w k := by unfold dgrps; rw [List.range_succ, List.flatMap_append]; simp
theorem rblks_len (q : Int) (v : List Int) (k : Nat) : (rblks q v k).length = k := by simp [rblks]
theorem dgrps_len (q : Int) (w : List (Int × List Int)) : ∀ k, (dgrps q w k).length = k + min (48 * k) w.length
  | 0 => by simp [dgrps]
  | k + 1 => by
    rw [dgrps_succ, List.length_append, dgrps_len q w k]
    simp only [dgrp, List.length_cons, List.length_map, List.length_take, List.length_drop]
    omega
theorem body_len (t : TX) : (body t).length + 1 = size t := by
  unfold body size
  rw [List.length_append, rblks_len, dgrps_len]
  unfold kR kW
  omega

theorem getD_chunk {A : Type} (l : List A) (a n j : Nat) (z : A) (h : j < n) : ((l.drop a).take n).getD j z = l.getD (a + j) z := by
  rw [List.getD_eq_getElem?_getD, List.getElem?_take, if_pos h, List.getElem?_drop, ← List.getD_eq_getElem?_getD]
theorem getD_map' {A B : Type} (f : A → B) (l : List A) (j : Nat) (z : A) (z' : B) (h : j < l.length) : (l.map f).getD j z' = f (l.getD j z) := by
  rw [List.getD_eq_getElem?_getD, List.getElem?_map, List.getD_eq_getElem?_getD, List.getElem?_eq_getElem h]; rfl

theorem plain_rx {t : TX} (h : okT t) {i : Nat} (hi : i < kR t) : plainB (rx t.1 t.2.2 i) := by
  have hf := okT_facts h
  unfold kR at hi
  refine ⟨h.1, ?_⟩
  show (if (3 : Int) = 1 then _ else if (3 : Int) = 3 then _ else _)
  rw [if_neg (by decide), if_pos rfl]
  have hl : ((t.2.2.drop (60 * i)).take 60).length = min 60 (t.2.2.length - 60 * i) := by simp
  refine ⟨rfl, rfl, ?_, ?_, fun j hj => ?_⟩
  · show 1 ≤ ((t.2.2.drop (60 * i)).take 60).length
    omega
  · show ((t.2.2.drop (60 * i)).take 60).length ≤ 60
    omega
  · have hj : j < ((t.2.2.drop (60 * i)).take 60).length := hj
    show isBlk (((t.2.2.drop (60 * i)).take 60).getD j 0)
    rw [getD_chunk _ _ _ _ _ (by omega), ← num_r]
    exact h.2.2.2.1 _ (by unfold tot; omega)

theorem plain_dx {t : TX} (h : okT t) {i : Nat} (hi : i < kW t) : plainB (dx t.1 t.2.1 i) := by
  have hf := okT_facts h
  unfold kW at hi
  refine ⟨h.1, ?_⟩
  show (if (1 : Int) = 1 then _ else _)
  rw [if_pos rfl]
  have hl : ((t.2.1.drop (48 * i)).take 48).length = min 48 (t.2.1.length - 48 * i) := by simp
  refine ⟨rfl, rfl, ?_, ?_, fun j hj => ?_⟩
  · show 1 ≤ (((t.2.1.drop (48 * i)).take 48).map tagOf).length
    rw [List.length_map]; omega
  · show (((t.2.1.drop (48 * i)).take 48).map tagOf).length ≤ 48
    rw [List.length_map]; omega
  · have hj : j < (((t.2.1.drop (48 * i)).take 48).map tagOf).length := hj
    rw [List.length_map] at hj
    show isBlk ((((t.2.1.drop (48 * i)).take 48).map tagOf).getD j (0, false)).1
    rw [getD_map' tagOf _ _ (0, []) _ hj, getD_chunk _ _ _ _ _ (by omega)]
    show isBlk (t.2.1.getD (48 * i + j) (0, [])).1
    rw [← num_w (by omega)]
    exact h.2.2.2.1 _ (by unfold tot; omega)

theorem plain_cx {t : TX} (h : okT t) : plainB (cx t) := by
  have hf := body_len t
  have hs := h.2.2.1
  refine ⟨h.1, ?_⟩
  show (if (2 : Int) = 1 then _ else if (2 : Int) = 3 then _ else if (2 : Int) = 2 then _ else _)
  rw [if_neg (by decide), if_neg (by decide), if_pos rfl]
  refine ⟨rfl, rfl, ?_, ?_⟩
  · show (1 : Int) ≤ (((body t).length + 1 : Nat) : Int)
    omega
  · show (((body t).length + 1 : Nat) : Int) ≤ 64
    omega

structure Small (t : TX) : Prop where
  w : t.2.1.length ≤ 140737488355328
  r : t.2.2.length ≤ 140737488355328
  d : ∀ p ∈ t.2.1, Bytes p.2 ∧ p.2.length ≤ 140737488355328

theorem chunk_eq {A : Type} (v : List A) (a n : Nat) : (v.drop a).take (a + min (v.length - a) n - a) = (v.drop a).take n := by
  rw [Nat.add_sub_cancel_left]
  by_cases h : v.length - a ≤ n
  · rw [Nat.min_eq_left h, List.take_of_length_le (by simp), List.take_of_length_le (by simp; omega)]
  · rw [Nat.min_eq_right (by omega)]

open Classical in
theorem m40_ok (t : TX) (hs : Small t) : m40 (t, ()) = some (if okT t then (packB t, (0, ())) else ([], (171, ()))) := by
  apply ok_eq
  unfold m40
  rw [m51_ok t hs.w hs.r]
  simp only [Option.bind_some]
  by_cases hok : okT t
  rotate_left
  · rw [if_neg hok, if_neg hok]
    exact Ok.ncond (fun _ => Ok.some rfl) (fun h => absurd h (by decide))
  rw [if_pos hok, if_pos hok]
  obtain ⟨f1, f2⟩ := okT_facts hok
  have hR : kR t = (t.2.2.length + 59) / 60 := rfl
  have hW : kW t = (t.2.1.length + 47) / 48 := rfl
  refine Ok.ncond (fun h => (h rfl).elim) (fun _ => Ok.cond (fun h => absurd h (by decide)) (fun _ => ?_))
  refine Ok.bind (S := fun r => r = rblks t.1 t.2.2 (kR t)) ?_ (fun r hr => ?_)
  · refine Ok.loop (kR t) (fun i x => x = (((60 * i : Nat) : Int), rblks t.1 t.2.2 i)) rfl ?_
    rintro i x hi rfl
    refine Ok.cond (fun hc => ?_) (fun hc => ?_)
    rotate_left
    · obtain rfl : i = kR t := by simp only at hc; omega
      exact Ok.inr rfl
    have hc' : 60 * i < t.2.2.length := by simp only at hc; omega
    have eT : List.take (Int.toNat ((t.2.2.length : Nat) : Int) - Int.toNat ((60 * i : Nat) : Int)) (List.drop (Int.toNat ((60 * i : Nat) : Int)) t.2.2) = t.2.2.drop (60 * i) := by
      rw [Int.toNat_natCast, Int.toNat_natCast]
      exact List.take_of_length_le (by simp)
    have hmin : (if ((t.2.2.length - 60 * i : Nat) : Int) < 60 then ((t.2.2.length - 60 * i : Nat) : Int) else 60) = ((min (t.2.2.length - 60 * i) 60 : Nat) : Int) := by
      split <;> omega
    have hwr : IntKind.wrap .i64 (((60 * i : Nat) : Int) + ((min (t.2.2.length - 60 * i) 60 : Nat) : Int)) = ((60 * i + min (t.2.2.length - 60 * i) 60 : Nat) : Int) := by rw [wrap64 (by omega) (by omega)]; push_cast; rfl
    simp only [eT, List.length_drop, hmin, hwr]
    refine Ok.gd (by omega) (Ok.gd (by omega) (Ok.gd (by omega) (Ok.gd (by omega) (Ok.gd (by omega) (Ok.gd (by omega) (Ok.gd (by omega) ?_))))))
    simp only [Int.toNat_natCast, chunk_eq]
    have e := m62_ok (rx t.1 t.2.2 i)
    rw [if_pos (plain_rx hok (by omega))] at e
    unfold rx at e
    rw [e]
    simp only [Option.bind_some]
    refine Ok.cond (fun _ => ?_) (fun h => (h (by simp)).elim)
    have hl := rblks_len t.1 t.2.2 i
    simp only [List.length_cons, List.length_nil, hl]
    refine Ok.gd (by omega) (Ok.gd (by omega) (Ok.inl ⟨by omega, ?_⟩))
    rw [rblks_succ, wrap64 (by omega) (by omega)]
    refine Prod.ext ?_ rfl
    show ((60 * i : Nat) : Int) + 60 = ((60 * (i + 1) : Nat) : Int)
    omega
  subst hr
  refine Ok.cond (fun h => absurd h (by decide)) (fun _ => ?_)
  have hl0 := rblks_len t.1 t.2.2 (kR t)
  generalize hR0 : rblks t.1 t.2.2 (kR t) = R0 at *
  refine Ok.bind (S := fun r => r = R0 ++ dgrps t.1 t.2.1 (kW t)) ?_ (fun r hr => ?_)
  · refine Ok.loop (kW t) (fun i x => x = (((48 * i : Nat) : Int), R0 ++ dgrps t.1 t.2.1 i)) (by simp [dgrps]) ?_
    rintro i x hi rfl
    refine Ok.cond (fun hc => ?_) (fun hc => ?_)
    rotate_left
    · obtain rfl : i = kW t := by simp only at hc; omega
      exact Ok.inr rfl
    have hc' : 48 * i < t.2.1.length := by simp only at hc; omega
    have eT : List.take (Int.toNat ((t.2.1.length : Nat) : Int) - Int.toNat ((48 * i : Nat) : Int)) (List.drop (Int.toNat ((48 * i : Nat) : Int)) t.2.1) = t.2.1.drop (48 * i) := by
      rw [Int.toNat_natCast, Int.toNat_natCast]
      exact List.take_of_length_le (by simp)
    have hmin : (if ((t.2.1.length - 48 * i : Nat) : Int) < 48 then ((t.2.1.length - 48 * i : Nat) : Int) else 48) = ((min (t.2.1.length - 48 * i) 48 : Nat) : Int) := by
      split <;> omega
    have hwr : IntKind.wrap .i64 (((48 * i : Nat) : Int) + ((min (t.2.1.length - 48 * i) 48 : Nat) : Int)) = ((48 * i + min (t.2.1.length - 48 * i) 48 : Nat) : Int) := by rw [wrap64 (by omega) (by omega)]; push_cast; rfl
    simp only [eT, List.length_drop, hmin, hwr]
    refine Ok.gd (by omega) (Ok.gd (by omega) (Ok.gd (by omega) (Ok.gd (by omega) (Ok.gd (by omega) (Ok.gd (by omega) (Ok.gd (by omega) ?_))))))
    simp only [Int.toNat_natCast, chunk_eq]
    have hpl : ((t.2.1.drop (48 * i)).take 48).length = min 48 (t.2.1.length - 48 * i) := by simp
    have hpm : ∀ p ∈ (t.2.1.drop (48 * i)).take 48, p ∈ t.2.1 := fun p hp => List.mem_of_mem_drop (List.mem_of_mem_take hp)
    have hdx : dx t.1 t.2.1 i = (1, (t.1, (((t.2.1.drop (48 * i)).take 48).map tagOf, ([], 0)))) := rfl
    have hdg : dgrp t.1 t.2.1 i = encB (dx t.1 t.2.1 i) :: ((t.2.1.drop (48 * i)).take 48).map cpy := rfl
    generalize (t.2.1.drop (48 * i)).take 48 = part at *
    refine Ok.bind (S := fun r => r = (part.map tagOf, part.map cpy)) ?_ (fun r hr => ?_)
    · refine Ok.loop part.length (fun j x => x = ((part.take j).map tagOf, ((part.take j).map cpy, (j : Int)))) (by simp) ?_
      rintro j x hj rfl
      refine Ok.cond (fun hc2 => ?_) (fun hc2 => ?_)
      rotate_left
      · obtain rfl : j = part.length := by simp only at hc2; omega
        exact Ok.inr (by rw [List.take_length])
      have hj' : j < part.length := by simp only at hc2; omega
      have hmem := hs.d _ (hpm _ (getD_mem (z := (0, [])) hj'))
      refine Ok.gd (by simp only; omega) (Ok.gd hc2 ?_)
      simp only [Int.toNat_natCast]
      rw [m67_ok _ hmem.1 hmem.2]
      simp only [Option.bind_some, List.length_map, List.length_take, List.length_cons, List.length_nil]
      refine Ok.gd (by omega) (Ok.gd (by omega) (Ok.gd (by omega) (Ok.gd (by omega) (Ok.inl ⟨hj', ?_⟩))))
      rw [wsucc (by omega), take_snoc part j hj' (0, []), List.map_append, List.map_append]
      rfl
    subst hr
    have e := m62_ok (dx t.1 t.2.1 i)
    rw [if_pos (plain_dx hok (by omega)), hdx] at e
    dsimp only
    rw [e]
    simp only [Option.bind_some]
    refine Ok.cond (fun _ => ?_) (fun h => (h (by simp)).elim)
    have hdl := dgrps_len t.1 t.2.1 i
    simp only [List.length_append, List.length_map, List.length_cons, List.length_nil, hdl, hl0]
    refine Ok.gd (by omega) (Ok.gd (by omega) (Ok.gd (by omega) (Ok.gd (by omega) (Ok.inl ⟨by omega, ?_⟩))))
    rw [dgrps_succ, hdg, hdx, wrap64 (by omega) (by omega)]
    refine Prod.ext ?_ (by simp [List.append_assoc])
    show ((48 * i : Nat) : Int) + 48 = ((48 * (i + 1) : Nat) : Int)
    omega
  subst hr
  have hb : R0 ++ dgrps t.1 t.2.1 (kW t) = body t := by unfold body; rw [hR0]
  rw [hb]
  have hbl := body_len t
  have hsz := hok.2.2.1
  have hwr : IntKind.wrap .i64 ((((body t).length : Nat) : Int) + 1) = (((body t).length + 1 : Nat) : Int) := wsucc (by omega)
  rw [hwr]
  have e := m62_ok (cx t)
  rw [if_pos (plain_cx hok)] at e
  have e' : m62 (((2 : Int), (t.1, (([] : List (Int × Bool)), (([] : List Int), (((body t).length + 1 : Nat) : Int))))), ()) = some (encB (cx t), (0, ())) := e
  rw [e']
  simp only [Option.bind_some]
  refine Ok.cond (fun _ => ?_) (fun h => (h (by simp)).elim)
  simp only [List.length_cons, List.length_nil]
  exact Ok.gd (by omega) (Ok.gd (by omega) (Ok.some rfl))

theorem chunk_eq2 {A : Type} (v : List A) (a n : Nat) : (v.drop a).take (min v.length (a + n) - a) = (v.drop a).take n := by
  by_cases h : v.length ≤ a + n
  · rw [Nat.min_eq_left h, List.take_of_length_le (by simp), List.take_of_length_le (by simp; omega)]
  · rw [Nat.min_eq_right (by omega), Nat.add_sub_cancel_left]

open Classical in
theorem m27_ok (t : TX) (hs : Small t) : m27 (t, ()) = some (if okT t then (packB t, (0, ())) else ([], (171, ()))) := by
  apply ok_eq
  unfold m27
  rw [m31_ok t hs.w hs.r]
  simp only [Option.bind_some]
  by_cases hok : okT t
  rotate_left
  · rw [if_neg hok, if_neg hok]
    exact Ok.ncond (fun _ => Ok.some rfl) (fun h => absurd h (by decide))
  rw [if_pos hok, if_pos hok]
  obtain ⟨f1, f2⟩ := okT_facts hok
  have hR : kR t = (t.2.2.length + 59) / 60 := rfl
  have hW : kW t = (t.2.1.length + 47) / 48 := rfl
  refine Ok.ncond (fun h => (h rfl).elim) (fun _ => ?_)
  refine Ok.bind (S := fun r => r = rblks t.1 t.2.2 (kR t)) ?_ (fun r hr => ?_)
  · refine Ok.loop (kR t) (fun i x => x = (rblks t.1 t.2.2 i, ((60 * i : Nat) : Int))) rfl ?_
    rintro i x hi rfl
    refine Ok.cond (fun hc => ?_) (fun hc => ?_)
    rotate_left
    · obtain rfl : i = kR t := by simp only at hc; omega
      exact Ok.inr rfl
    have hc' : 60 * i < t.2.2.length := by simp only at hc; omega
    have hwr : IntKind.wrap .i64 (((60 * i : Nat) : Int) + 60) = ((60 * i + 60 : Nat) : Int) := by rw [wrap64 (by omega) (by omega)]; push_cast; rfl
    have hmin : (if ((t.2.2.length : Nat) : Int) < ((60 * i + 60 : Nat) : Int) then ((t.2.2.length : Nat) : Int) else ((60 * i + 60 : Nat) : Int)) = ((min t.2.2.length (60 * i + 60) : Nat) : Int) := by
      split <;> omega
    simp only [hwr, hmin]
    refine Ok.gd (by omega) (Ok.gd (by omega) (Ok.gd (by omega) ?_))
    simp only [Int.toNat_natCast, chunk_eq2]
    have e := m46_ok (rx t.1 t.2.2 i) (by simp [rx]) (by show ((t.2.2.drop (60 * i)).take 60).length ≤ _; simp; omega)
    rw [if_pos (plain_rx hok (by omega))] at e
    unfold rx at e
    rw [e]
    have hl := rblks_len t.1 t.2.2 i
    simp only [Option.bind_some, List.length_cons, List.length_nil, hl]
    refine Ok.gd (by omega) (Ok.gd (by omega) (Ok.inl ⟨by omega, ?_⟩))
    rw [rblks_succ]
    refine Prod.ext rfl ?_
    show ((60 * i + 60 : Nat) : Int) = ((60 * (i + 1) : Nat) : Int)
    omega
  subst hr
  have hl0 := rblks_len t.1 t.2.2 (kR t)
  generalize hR0 : rblks t.1 t.2.2 (kR t) = R0 at *
  refine Ok.bind (S := fun r => r = R0 ++ dgrps t.1 t.2.1 (kW t)) ?_ (fun r hr => ?_)
  · refine Ok.loop (kW t) (fun i x => x = (R0 ++ dgrps t.1 t.2.1 i, ((48 * i : Nat) : Int))) (by simp [dgrps]) ?_
    rintro i x hi rfl
    refine Ok.cond (fun hc => ?_) (fun hc => ?_)
    rotate_left
    · obtain rfl : i = kW t := by simp only at hc; omega
      exact Ok.inr rfl
    have hc' : 48 * i < t.2.1.length := by simp only at hc; omega
    have hwr : IntKind.wrap .i64 (((48 * i : Nat) : Int) + 48) = ((48 * i + 48 : Nat) : Int) := by rw [wrap64 (by omega) (by omega)]; push_cast; rfl
    simp only [hwr]
    have hpl : ((t.2.1.drop (48 * i)).take 48).length = min 48 (t.2.1.length - 48 * i) := by simp
    have hpg : ∀ j, j < ((t.2.1.drop (48 * i)).take 48).length → t.2.1.getD (48 * i + j) (0, []) = ((t.2.1.drop (48 * i)).take 48).getD j (0, []) := fun j hj => (getD_chunk _ _ _ _ _ (by omega)).symm
    have hdx : dx t.1 t.2.1 i = (1, (t.1, (((t.2.1.drop (48 * i)).take 48).map tagOf, ([], 0)))) := rfl
    have hdg : dgrp t.1 t.2.1 i = encB (dx t.1 t.2.1 i) :: ((t.2.1.drop (48 * i)).take 48).map cpy := rfl
    generalize (t.2.1.drop (48 * i)).take 48 = part at *
    refine Ok.bind (S := fun r => r = (part.map cpy, ((1 : Int), (t.1, (part.map tagOf, (([] : List Int), (0 : Int))))))) ?_ (fun r hr => ?_)
    · refine Ok.loop part.length (fun j x => x = ((part.take j).map cpy, (((48 * i + j : Nat) : Int), ((1 : Int), (t.1, ((part.take j).map tagOf, (([] : List Int), (0 : Int)))))))) (by simp) ?_
      rintro j x hj rfl
      have done : ¬ j < part.length → Ok (some (Sum.inr ((part.take j).map cpy, ((1 : Int), (t.1, ((part.take j).map tagOf, (([] : List Int), (0 : Int)))))))) (fun s : (((List (List Int)) × (Int × (Int × (Int × ((List (Int × Bool)) × ((List Int) × Int)))))) ⊕ ((List (List Int)) × (Int × (Int × ((List (Int × Bool)) × ((List Int) × Int)))))) => s.elim (fun y => j < part.length ∧ y = ((part.take (j + 1)).map cpy, (((48 * i + (j + 1) : Nat) : Int), ((1 : Int), (t.1, ((part.take (j + 1)).map tagOf, (([] : List Int), (0 : Int)))))))) (fun r => r = (part.map cpy, ((1 : Int), (t.1, (part.map tagOf, (([] : List Int), (0 : Int)))))))) := fun h => by
        obtain rfl : j = part.length := by omega
        exact Ok.inr (by rw [List.take_length])
      refine Ok.cond (fun hc1 => Ok.cond (fun hc2 => ?_) (fun hc2 => done (by simp only at hc2; omega))) (fun hc1 => done (by simp only at hc1; omega))
      simp only at hc1 hc2
      have hj' : j < part.length := by omega
      have hmem := hs.d _ (getD_mem (z := (0, [])) (show 48 * i + j < t.2.1.length by omega))
      refine Ok.gd (by simp only; omega) (Ok.gd hc1 ?_)
      simp only [Int.toNat_natCast]
      rw [m47_ok _ hmem.1 hmem.2]
      simp only [Option.bind_some, List.length_map, List.length_take, List.length_cons, List.length_nil]
      refine Ok.gd (by omega) (Ok.gd (by omega) (Ok.gd (by omega) (Ok.gd (by omega) (Ok.gd (by omega) (Ok.gd (by omega) (Ok.inl ⟨hj', ?_⟩))))))
      rw [wsucc (by omega), take_snoc part j hj' (0, []), List.map_append, List.map_append, hpg j hj']
      rfl
    subst hr
    have e := m46_ok (dx t.1 t.2.1 i) (by rw [hdx]; show (part.map tagOf).length ≤ _; rw [List.length_map]; omega) (by simp [dx])
    rw [if_pos (plain_dx hok (by omega)), hdx] at e
    dsimp only
    rw [e]
    have hdl := dgrps_len t.1 t.2.1 i
    simp only [Option.bind_some, List.length_append, List.length_map, List.length_cons, List.length_nil, hdl, hl0]
    refine Ok.gd (by omega) (Ok.gd (by omega) (Ok.gd (by omega) (Ok.gd (by omega) (Ok.inl ⟨by omega, ?_⟩))))
    rw [dgrps_succ, hdg, hdx]
    refine Prod.ext (by simp [List.append_assoc]) ?_
    show ((48 * i + 48 : Nat) : Int) = ((48 * (i + 1) : Nat) : Int)
    omega
  subst hr
  have hb : R0 ++ dgrps t.1 t.2.1 (kW t) = body t := by unfold body; rw [hR0]
  rw [hb]
  have hbl := body_len t
  have hsz := hok.2.2.1
  have hwr : IntKind.wrap .i64 ((((body t).length : Nat) : Int) + 1) = (((body t).length + 1 : Nat) : Int) := wsucc (by omega)
  rw [hwr]
  have e := m46_ok (cx t) (by simp [cx]) (by simp [cx])
  rw [if_pos (plain_cx hok)] at e
  have e' : m46 (((2 : Int), (t.1, (([] : List (Int × Bool)), (([] : List Int), (((body t).length + 1 : Nat) : Int))))), ()) = some (encB (cx t), (0, ())) := e
  rw [e']
  simp only [Option.bind_some, List.length_cons, List.length_nil]
  exact Ok.gd (by omega) (Ok.gd (by omega) (Ok.some rfl))
end Go.Proofs.Ytjleeabhpfmhaaa
end

section
namespace Go.Proofs.Ytjleeabhpfmhaaa
open Go Go.Proofs.AM

theorem drop_len {A : Type} (a b : List A) (n : Nat) (h : a.length = n) : (a ++ b).drop n = b := by rw [← h, List.drop_left]
theorem take_len {A : Type} (a b : List A) (n : Nat) (h : a.length = n) : (a ++ b).take n = a := by rw [← h, List.take_left]

theorem flat_drop {A : Type} {f : A → List Int} {c : Nat} (hf : ∀ a, (f a).length = c) (r : List Int) : ∀ (i : Nat) (l : List A), i ≤ l.length → (l.flatMap f ++ r).drop (c * i) = (l.drop i).flatMap f ++ r
  | 0, l, _ => by simp
  | i + 1, [], h => by simp at h
  | i + 1, a :: l, h => by
    rw [List.flatMap_cons, List.append_assoc, show c * (i + 1) = c + c * i by rw [Nat.mul_succ, Nat.add_comm], ← List.drop_drop, drop_len _ _ _ (hf a), flat_drop hf r i l (by simpa using h)]
    rfl

theorem encB_eq (x : JB) : ∃ z, encB x = be 1397508641 4 ++ (be x.1.toNat 1 ++ (be x.2.1.toNat 8 ++ (be (cnt x) 1 ++ (x.2.2.1.flatMap tagB ++ (x.2.2.2.1.flatMap revB ++ z))))) := by
  refine ⟨List.replicate (256 - (inB x).length) 0, ?_⟩
  simp only [encB, inB, hdB, List.append_assoc]

theorem encB_parts {x : JB} (h : plainB x) : kOf (encB x) = x.1.toNat ∧ qOf (encB x) = x.2.1.toNat ∧ nOf (encB x) = cnt x ∧ ∃ z, (encB x).drop 14 = x.2.2.1.flatMap tagB ++ (x.2.2.2.1.flatMap revB ++ z) := by
  obtain ⟨k1, q1, lt, lv, ltv, c0, cs, _, _⟩ := plain_facts h
  obtain ⟨z, e⟩ := encB_eq x
  have d4 : (encB x).drop 4 = be x.1.toNat 1 ++ (be x.2.1.toNat 8 ++ (be (cnt x) 1 ++ (x.2.2.1.flatMap tagB ++ (x.2.2.2.1.flatMap revB ++ z)))) := by
    rw [e, drop_len _ _ _ (be_len _ _)]
  have d5 : (encB x).drop 5 = be x.2.1.toNat 8 ++ (be (cnt x) 1 ++ (x.2.2.1.flatMap tagB ++ (x.2.2.2.1.flatMap revB ++ z))) := by
    rw [show (5 : Nat) = 4 + 1 from rfl, ← List.drop_drop, d4, drop_len _ _ _ (be_len _ _)]
  have d13 : (encB x).drop 13 = be (cnt x) 1 ++ (x.2.2.1.flatMap tagB ++ (x.2.2.2.1.flatMap revB ++ z)) := by
    rw [show (13 : Nat) = 5 + 8 from rfl, ← List.drop_drop, d5, drop_len _ _ _ (be_len _ _)]
  have d14 : (encB x).drop 14 = x.2.2.1.flatMap tagB ++ (x.2.2.2.1.flatMap revB ++ z) := by
    rw [show (14 : Nat) = 13 + 1 from rfl, ← List.drop_drop, d13, drop_len _ _ _ (be_len _ _)]
  refine ⟨?_, ?_, ?_, z, d14⟩
  · unfold kOf
    rw [d4, take_len _ _ _ (be_len _ _), val_be (by omega)]
  · unfold qOf
    rw [d5, take_len _ _ _ (be_len _ _), val_be (by omega)]
  · unfold nOf
    rw [d13, take_len _ _ _ (be_len _ _), val_be (by unfold cnt; omega)]

theorem tagB_len (t : Int × Bool) : (tagB t).length = 5 := by simp [tagB, be_len]
theorem revB_len (t : Int) : (revB t).length = 4 := by simp [revB, be_len]

theorem tags_back {b z : List Int} {l : List (Int × Bool)} (h : b.drop 14 = l.flatMap tagB ++ z) (hl : allT l) : tagsOf b l.length = l := by
  apply List.ext_getElem
  · simp [tagsOf]
  intro i h1 h2
  have hi := hl i h2
  have hd := flat_drop tagB_len z i l (by omega)
  rw [← h, List.drop_drop, List.drop_eq_getElem_cons h2] at hd
  have e : l.getD i (0, false) = l[i] := by rw [List.getD_eq_getElem?_getD, List.getElem?_eq_getElem h2]; rfl
  rw [e] at hi
  generalize l[i] = t at *
  obtain ⟨n, c⟩ := t
  simp only [List.flatMap_cons, tagB, List.append_assoc] at hd
  have e1 : (b.drop (14 + 5 * i)).take 4 = be n.toNat 4 := by rw [hd, take_len _ _ _ (be_len _ _)]
  have e2 : (b.drop (18 + 5 * i)).take 1 = be (if c = true then 1 else 0) 1 := by
    rw [show 18 + 5 * i = 14 + 5 * i + 4 by omega, ← List.drop_drop, hd, drop_len _ _ _ (be_len _ _), take_len _ _ _ (be_len _ _)]
  have hn := hi.1
  have hn2 := hi.2
  simp only at hn hn2
  simp only [tagsOf, List.getElem_map, List.getElem_range, tagAt]
  rw [e1, e2, val_be (by omega)]
  refine Prod.ext ?_ ?_
  · show ((n.toNat : Nat) : Int) = n
    omega
  · cases c <;> rfl

theorem revs_back {b z : List Int} {l : List Int} (h : b.drop 14 = l.flatMap revB ++ z) (hl : allR l) : revsOf b l.length = l := by
  apply List.ext_getElem
  · simp [revsOf]
  intro i h1 h2
  have hi := hl i h2
  have hd := flat_drop revB_len z i l (by omega)
  rw [← h, List.drop_drop, List.drop_eq_getElem_cons h2] at hd
  have e : l.getD i 0 = l[i] := by rw [List.getD_eq_getElem?_getD, List.getElem?_eq_getElem h2]; rfl
  rw [e] at hi
  generalize l[i] = n at *
  simp only [List.flatMap_cons, revB, List.append_assoc] at hd
  have e1 : (b.drop (14 + 4 * i)).take 4 = be n.toNat 4 := by rw [hd, take_len _ _ _ (be_len _ _)]
  have hn := hi.1
  have hn2 := hi.2
  simp only [revsOf, List.getElem_map, List.getElem_range, revAt]
  rw [e1, val_be (by omega)]
  omega

theorem cand_encB {x : JB} (h : plainB x) : cand (encB x) = x := by
  obtain ⟨ek, eq, en, z, ed⟩ := encB_parts h
  obtain ⟨k1, q1, lt, lv, ltv, c0, cs, at_, av⟩ := plain_facts h
  obtain ⟨_, h2⟩ := h
  obtain ⟨k, q, t, v, c⟩ := x
  have ec : cnt (k, q, t, v, c) = (((t.length : Nat) : Int) + ((v.length : Nat) : Int) + c).toNat := rfl
  dsimp only at *
  unfold cand
  rw [ek, eq, en]
  have ek' : ((k.toNat : Nat) : Int) = k := by omega
  have eq' : ((q.toNat : Nat) : Int) = q := by omega
  rw [ek', eq']
  split at h2
  · rename_i hk
    have hv : v = [] := List.length_eq_zero_iff.1 h2.1
    subst hv
    have hn : cnt (k, q, t, [], c) = t.length := by rw [ec]; simp only [List.length_nil]; omega
    rw [hn, if_pos (by omega), tags_back ed at_]
    rw [h2.2.1]
  · rename_i hk
    split at h2
    · rename_i hk3
      have ht : t = [] := List.length_eq_zero_iff.1 h2.1
      subst ht
      have hn : cnt (k, q, [], v, c) = v.length := by rw [ec]; simp only [List.length_nil]; omega
      rw [hn, if_neg (by omega), if_pos (by omega), revs_back ed av]
      rw [h2.2.1]
    · rename_i hk3
      split at h2
      · rename_i hk2
        have ht : t = [] := List.length_eq_zero_iff.1 h2.1
        have hv : v = [] := List.length_eq_zero_iff.1 h2.2.1
        subst ht hv
        have hn : ((cnt (k, q, [], [], c) : Nat) : Int) = c := by rw [ec]; simp only [List.length_nil]; omega
        rw [if_neg (by omega), if_neg (by omega), hn]
      · exact h2.elim

theorem decB_encB {x : JB} (h : plainB x) : decB (encB x) = (x, (0, ())) := by
  unfold decB
  rw [if_pos (encB_len h), cand_encB h]
  unfold fin
  rw [if_pos ⟨h, rfl⟩]

open Classical in
noncomputable def dec1 (q : Int) (b : List Int) : Option JB := if (decB b).2.1 = 0 ∧ (decB b).1.2.1 = q then some (decB b).1 else none

def wr (l : List (List Int)) (a : Nat) (tags : List (Int × Bool)) (j : Nat) : List (Int × List Int) := (List.range j).map fun i => ((tags.getD i (0, false)).1, unesc (l.getD (a + i) []) (tags.getD i (0, false)).2)

noncomputable def par (q : Int) (l : List (List Int)) : Nat → Nat → TX → TX × Option Nat
  | 0, _, t => (t, none)
  | n + 1, a, t => if a < l.length then
      match dec1 q (l.getD a []) with
      | none => (t, none)
      | some x => if x.1 = 2 then (t, some a)
          else if x.1 = 3 then par q l n (a + 1) (t.1, (t.2.1, t.2.2 ++ x.2.2.2.1))
          else if l.length - (a + 1) < x.2.2.1.length then (t, none)
          else par q l n (a + 1 + x.2.2.1.length) (t.1, (t.2.1 ++ wr l (a + 1) x.2.2.1 x.2.2.1.length, t.2.2))
    else (t, none)

theorem dec1_encB {x : JB} (h : plainB x) {q : Int} (hq : x.2.1 = q) : dec1 q (encB x) = some x := by
  unfold dec1
  rw [decB_encB h]
  rw [if_pos ⟨rfl, hq⟩]

theorem getD_app_l {A : Type} (a b : List A) (i : Nat) (z : A) (h : i < a.length) : (a ++ b).getD i z = a.getD i z := by
  rw [List.getD_eq_getElem?_getD, List.getElem?_append_left h, ← List.getD_eq_getElem?_getD]
theorem getD_app_r {A : Type} (a b : List A) (i : Nat) (z : A) : (a ++ b).getD (a.length + i) z = b.getD i z := by
  rw [List.getD_eq_getElem?_getD, List.getElem?_append_right (by omega), Nat.add_sub_cancel_left, ← List.getD_eq_getElem?_getD]

theorem take_take_add {A : Type} (v : List A) (a n : Nat) : v.take a ++ (v.drop a).take n = v.take (a + n) := by rw [List.take_add]

theorem dgrps_at (q : Int) (w : List (Int × List Int)) (rest : List (List Int)) : ∀ (m i : Nat), i + m = (w.length + 47) / 48 → 0 < m → ∃ r, (dgrps q w (i + m) ++ rest).drop (dgrps q w i).length = dgrp q w i ++ r := by
  intro m i hm h0
  have : ∀ k, ∃ r, dgrps q w (i + 1 + k) = dgrps q w i ++ (dgrp q w i ++ r) := by
    intro k
    induction k with
    | zero => exact ⟨[], by rw [Nat.add_zero, dgrps_succ]; simp⟩
    | succ k ih =>
      obtain ⟨r, hr⟩ := ih
      exact ⟨r ++ dgrp q w (i + 1 + k), by rw [← Nat.add_assoc, dgrps_succ, hr]; simp [List.append_assoc]⟩
  obtain ⟨r, hr⟩ := this (m - 1)
  rw [show i + 1 + (m - 1) = i + m by omega] at hr
  exact ⟨r ++ rest, by rw [hr, List.append_assoc, drop_len _ _ _ rfl, List.append_assoc]⟩

theorem getD_drop {A : Type} (l : List A) (a j : Nat) (z : A) : l.getD (a + j) z = (l.drop a).getD j z := by
  rw [List.getD_eq_getElem?_getD, List.getD_eq_getElem?_getD, List.getElem?_drop]

theorem par_pack {t : TX} (h : okT t) (rest : List (List Int)) (N : Nat) (hN : (packB t ++ rest).length < N) : par t.1 (packB t ++ rest) N 0 (t.1, ([], [])) = (t, some (body t).length) := by
  obtain ⟨q, w, v⟩ := t
  generalize hl : packB (q, (w, v)) ++ rest = l at *
  have hbl := body_len (q, (w, v))
  have hlen : l.length = (body (q, (w, v))).length + 1 + rest.length := by rw [← hl]; simp [packB]; omega
  have hR : kR (q, (w, v)) = (v.length + 59) / 60 := rfl
  have hW : kW (q, (w, v)) = (w.length + 47) / 48 := rfl
  have hbody : (body (q, (w, v))).length = kR (q, (w, v)) + (kW (q, (w, v)) + w.length) := by
    unfold body
    rw [List.length_append, rblks_len, dgrps_len, hW]
    simp only
    omega
  have hl2 : l = rblks q v (kR (q, (w, v))) ++ (dgrps q w (kW (q, (w, v))) ++ ([encB (cx (q, (w, v)))] ++ rest)) := by
    rw [← hl]; simp [packB, body, List.append_assoc]
  have st1 : ∀ k, k ≤ kR (q, (w, v)) → par q l N 0 (q, ([], [])) = par q l (N - k) k (q, ([], v.take (60 * k))) := by
    intro k
    induction k with
    | zero => intro _; simp
    | succ k ih =>
      intro hk
      rw [ih (by omega)]
      obtain ⟨n, hn⟩ : ∃ n, N - k = n + 1 := ⟨N - k - 1, by omega⟩
      have hg : l.getD k [] = encB (rx q v k) := by
        rw [hl2, getD_app_l _ _ _ _ (by rw [rblks_len]; omega)]
        unfold rblks
        rw [getD_map' _ _ _ 0 _ (by simp; omega)]
        congr 2
        rw [List.getD_eq_getElem?_getD, List.getElem?_range (by omega)]; rfl
      have hp : plainB (rx q v k) := plain_rx h (show k < kR (q, (w, v)) by omega)
      have hde : dec1 q (encB (rx q v k)) = some (rx q v k) := dec1_encB hp rfl
      rw [hn, show N - (k + 1) = n by omega, par, if_pos (by omega), hg, hde]
      dsimp only
      rw [if_neg (by show ¬ (3 : Int) = 2; decide), if_pos (by rfl)]
      show par q l n (k + 1) (q, ([], v.take (60 * k) ++ (v.drop (60 * k)).take 60)) = _
      rw [take_take_add, show 60 * k + 60 = 60 * (k + 1) by omega]
  have hv : v.take (60 * kR (q, (w, v))) = v := List.take_of_length_le (by omega)
  have st2 : ∀ i, i ≤ kW (q, (w, v)) → par q l N 0 (q, ([], [])) = par q l (N - kR (q, (w, v)) - i) (kR (q, (w, v)) + (i + min (48 * i) w.length)) (q, (w.take (48 * i), v)) := by
    intro i
    induction i with
    | zero => intro _; rw [st1 _ (Nat.le_refl _), hv]; simp
    | succ i ih =>
      intro hi
      rw [ih (by omega)]
      have hi48 : 48 * i < w.length := by omega
      obtain ⟨n, hn⟩ : ∃ n, N - kR (q, (w, v)) - i = n + 1 := ⟨N - kR (q, (w, v)) - i - 1, by omega⟩
      obtain ⟨r, hr⟩ := dgrps_at q w ([encB (cx (q, (w, v)))] ++ rest) (kW (q, (w, v)) - i) i (by omega) (by omega)
      rw [show i + (kW (q, (w, v)) - i) = kW (q, (w, v)) by omega] at hr
      have hdl := dgrps_len q w i
      have hdrop : l.drop (kR (q, (w, v)) + (i + min (48 * i) w.length)) = dgrp q w i ++ r := by
        rw [← List.drop_drop, ← hdl]
        conv => lhs; rw [hl2]
        rw [drop_len _ _ _ (rblks_len _ _ _), hr]
      have hpl : ((w.drop (48 * i)).take 48).length = min 48 (w.length - 48 * i) := by simp
      have hdl2 := dgrps_len q w (i + 1)
      have hp : plainB (dx q w i) := plain_dx h (show i < kW (q, (w, v)) by omega)
      have hde : dec1 q (encB (dx q w i)) = some (dx q w i) := dec1_encB hp rfl
      have hg : l.getD (kR (q, (w, v)) + (i + min (48 * i) w.length)) [] = encB (dx q w i) := by
        have := getD_drop l (kR (q, (w, v)) + (i + min (48 * i) w.length)) 0 []
        rw [Nat.add_zero, hdrop] at this
        exact this
      have hc : ∀ j, j < ((w.drop (48 * i)).take 48).length → l.getD (kR (q, (w, v)) + (i + min (48 * i) w.length) + 1 + j) [] = cpy (((w.drop (48 * i)).take 48).getD j (0, [])) := by
        intro j hj
        rw [Nat.add_assoc _ 1 j, getD_drop, hdrop, Nat.add_comm 1 j]
        show ((((w.drop (48 * i)).take 48).map cpy) ++ r).getD j [] = _
        rw [getD_app_l _ _ _ _ (by rw [List.length_map]; exact hj), getD_map' cpy _ _ (0, []) _ hj]
      have ha : kR (q, (w, v)) + (i + min (48 * i) w.length) < l.length := by rw [hlen, hbody]; omega
      have hwr : wr l (kR (q, (w, v)) + (i + min (48 * i) w.length) + 1) (((w.drop (48 * i)).take 48).map tagOf) (((w.drop (48 * i)).take 48).map tagOf).length = (w.drop (48 * i)).take 48 := by
        generalize (w.drop (48 * i)).take 48 = part at *
        apply List.ext_getElem
        · simp [wr]
        intro j h1 h2
        have e1 : (part.map tagOf).getD j (0, false) = tagOf (part.getD j (0, [])) := getD_map' tagOf _ _ _ _ h2
        have e2 : part.getD j (0, []) = part[j] := by rw [List.getD_eq_getElem?_getD, List.getElem?_eq_getElem h2]; rfl
        simp only [wr, List.getElem_map, List.getElem_range]
        rw [e1, hc j h2, e2]
        exact Prod.ext rfl (unesc_esc _)
      rw [hn, show N - kR (q, (w, v)) - (i + 1) = n by omega, par, if_pos ha, hg, hde]
      dsimp only
      rw [if_neg (by show ¬ (1 : Int) = 2; decide), if_neg (by show ¬ (1 : Int) = 3; decide), if_neg (by
        show ¬ l.length - _ < (((w.drop (48 * i)).take 48).map tagOf).length
        rw [List.length_map, hlen, hbody]; omega)]
      show par q l n (kR (q, (w, v)) + (i + min (48 * i) w.length) + 1 + (((w.drop (48 * i)).take 48).map tagOf).length) (q, (w.take (48 * i) ++ wr l (kR (q, (w, v)) + (i + min (48 * i) w.length) + 1) (((w.drop (48 * i)).take 48).map tagOf) (((w.drop (48 * i)).take 48).map tagOf).length, v)) = _
      rw [hwr, take_take_add, show 48 * i + 48 = 48 * (i + 1) by omega]
      congr 1
      rw [List.length_map]
      omega
  have hw : w.take (48 * kW (q, (w, v))) = w := List.take_of_length_le (by omega)
  show par q l N 0 (q, ([], [])) = _
  rw [st2 _ (Nat.le_refl _), hw]
  obtain ⟨n, hn⟩ : ∃ n, N - kR (q, (w, v)) - kW (q, (w, v)) = n + 1 := ⟨N - kR (q, (w, v)) - kW (q, (w, v)) - 1, by omega⟩
  have hat : kR (q, (w, v)) + (kW (q, (w, v)) + min (48 * kW (q, (w, v))) w.length) = (body (q, (w, v))).length := by rw [hbody]; omega
  have hg : l.getD (body (q, (w, v))).length [] = encB (cx (q, (w, v))) := by
    have e : l = body (q, (w, v)) ++ ([encB (cx (q, (w, v)))] ++ rest) := by rw [← hl]; simp [packB, List.append_assoc]
    conv => lhs; rw [e]
    have := getD_app_r (body (q, (w, v))) ([encB (cx (q, (w, v)))] ++ rest) 0 []
    rw [Nat.add_zero] at this
    rw [this]; rfl
  have hde : dec1 q (encB (cx (q, (w, v)))) = some (cx (q, (w, v))) := dec1_encB (plain_cx h) rfl
  rw [hn, hat, par, if_pos (by omega), hg, hde]
  dsimp only
  rw [if_pos (by rfl)]
end Go.Proofs.Ytjleeabhpfmhaaa
end

section
namespace Go.Proofs.Ytjleeabhpfmhaaa
open Go Go.Proofs.AM

abbrev UR := TyT × (Int × (Int × Unit))
def badU : UR := ((0, ([], [])), (0, (170, ())))

structure UInv (q : Int) (l : List (List Int)) (a : Nat) (t : TX) : Prop where
  s : t.1 = q
  le : a ≤ l.length
  w : t.2.1.length ≤ a
  r : t.2.2.length ≤ 60 * a
  d : ∀ p ∈ t.2.1, Bytes p.2 ∧ p.2.length ≤ 140737488355328

theorem UInv.small {q : Int} {l : List (List Int)} {a : Nat} {t : TX} (h : UInv q l a t) (hl : l.length ≤ 64) : Small t :=
  ⟨by have := h.w; have := h.le; omega, by have := h.r; have := h.le; omega, h.d⟩

theorem decB_plain {b : List Int} (h : (decB b).2.1 = 0) : plainB (decB b).1 := by
  unfold decB at h ⊢
  split
  · rename_i hl
    rw [if_pos hl] at h
    unfold fin at h ⊢
    split
    · rename_i hp
      exact hp.1
    · rename_i hp
      rw [if_neg hp] at h
      exact absurd h (by decide)
  · rename_i hl
    rw [if_neg hl] at h
    exact absurd h (by decide)

theorem dec1_some {q : Int} {b : List Int} (h : (decB b).2.1 = 0) (h2 : (decB b).1.2.1 = q) : dec1 q b = some (decB b).1 := by
  unfold dec1; rw [if_pos ⟨h, h2⟩]
theorem dec1_none {q : Int} {b : List Int} (h : ¬ ((decB b).2.1 = 0 ∧ (decB b).1.2.1 = q)) : dec1 q b = none := by
  unfold dec1; rw [if_neg h]

theorem wr_succ (l : List (List Int)) (a : Nat) (tags : List (Int × Bool)) (j : Nat) : wr l a tags (j + 1) = wr l a tags j ++ [((tags.getD j (0, false)).1, unesc (l.getD (a + j) []) (tags.getD j (0, false)).2)] := by
  unfold wr; rw [List.range_succ, List.map_append]; rfl
theorem wr_len (l : List (List Int)) (a : Nat) (tags : List (Int × Bool)) (j : Nat) : (wr l a tags j).length = j := by simp [wr]
theorem wr_ok {l : List (List Int)} (hb : ∀ b ∈ l, Bytes b ∧ b.length ≤ 140737488355328) {a : Nat} {tags : List (Int × Bool)} {j : Nat} (h : a + j ≤ l.length) : ∀ p ∈ wr l a tags j, Bytes p.2 ∧ p.2.length ≤ 140737488355328 := by
  intro p hp
  unfold wr at hp
  obtain ⟨i, hi, rfl⟩ := List.mem_map.1 hp
  have hi := List.mem_range.1 hi
  have := hb _ (getD_mem (z := []) (show a + i < l.length by omega))
  exact ⟨unesc_bytes this.1, by rw [unesc_len]; exact this.2⟩

theorem pack_bytes {t : TX} (h : ∀ p ∈ t.2.1, Bytes p.2) : ∀ b ∈ packB t, Bytes b := by
  intro b hb
  unfold packB body rblks dgrps dgrp at hb
  rcases List.mem_append.1 hb with hb | hb
  · rcases List.mem_append.1 hb with hb | hb
    · obtain ⟨i, _, rfl⟩ := List.mem_map.1 hb
      exact encB_bytes _
    · obtain ⟨i, _, hb⟩ := List.mem_flatMap.1 hb
      rcases List.mem_cons.1 hb with rfl | hb
      · exact encB_bytes _
      · obtain ⟨p, hp, rfl⟩ := List.mem_map.1 hb
        exact esc_bytes (h p (List.mem_of_mem_drop (List.mem_of_mem_take hp)))
  · rw [List.mem_singleton] at hb
    subst hb
    exact encB_bytes _

theorem ext_getDL {l m : List (List Int)} (hl : l.length = m.length) (h : ∀ i, i < l.length → l.getD i [] = m.getD i []) : l = m := by
  apply List.ext_getElem hl
  intro i h1 h2
  have := h i h1
  rw [List.getD_eq_getElem?_getD, List.getD_eq_getElem?_getD, List.getElem?_eq_getElem h1, List.getElem?_eq_getElem h2] at this
  simpa using this

open Classical in
noncomputable def outU (t : TX) (l : List (List Int)) : UR :=
  if okT t ∧ (packB t).length ≤ l.length ∧ packB t = l.take (packB t).length then (t, ((((packB t).length : Nat) : Int), (0, ()))) else badU

theorem par_stop {q : Int} {l : List (List Int)} {n a : Nat} {t : TX} (h : ¬ a < l.length) : par q l (n + 1) a t = (t, none) := by
  rw [par, if_neg h]
theorem par_bad {q : Int} {l : List (List Int)} {n a : Nat} {t : TX} (h : a < l.length) (hd : dec1 q (l.getD a []) = none) : par q l (n + 1) a t = (t, none) := by
  rw [par, if_pos h, hd]
theorem par_commit {q : Int} {l : List (List Int)} {n a : Nat} {t : TX} {x : JB} (h : a < l.length) (hd : dec1 q (l.getD a []) = some x) (hk : x.1 = 2) : par q l (n + 1) a t = (t, some a) := by
  rw [par, if_pos h, hd]
  dsimp only
  rw [if_pos hk]
theorem par_rev {q : Int} {l : List (List Int)} {n a : Nat} {t : TX} {x : JB} (h : a < l.length) (hd : dec1 q (l.getD a []) = some x) (hk : x.1 = 3) : par q l (n + 1) a t = par q l n (a + 1) (t.1, (t.2.1, t.2.2 ++ x.2.2.2.1)) := by
  rw [par, if_pos h, hd]
  dsimp only
  rw [if_neg (by omega), if_pos hk]
theorem par_short {q : Int} {l : List (List Int)} {n a : Nat} {t : TX} {x : JB} (h : a < l.length) (hd : dec1 q (l.getD a []) = some x) (hk : x.1 = 1) (hs : l.length - (a + 1) < x.2.2.1.length) : par q l (n + 1) a t = (t, none) := by
  rw [par, if_pos h, hd]
  dsimp only
  rw [if_neg (by omega), if_neg (by omega), if_pos hs]
theorem par_desc {q : Int} {l : List (List Int)} {n a : Nat} {t : TX} {x : JB} (h : a < l.length) (hd : dec1 q (l.getD a []) = some x) (hk : x.1 = 1) (hs : ¬ l.length - (a + 1) < x.2.2.1.length) : par q l (n + 1) a t = par q l n (a + 1 + x.2.2.1.length) (t.1, (t.2.1 ++ wr l (a + 1) x.2.2.1 x.2.2.1.length, t.2.2)) := by
  rw [par, if_pos h, hd]
  dsimp only
  rw [if_neg (by omega), if_neg (by omega), if_neg hs]

theorem m24_ok (q : Int) (l : List (List Int)) (hl : l.length ≤ 64) (hb : ∀ b ∈ l, Bytes b ∧ b.length ≤ 140737488355328) : m24 (q, (l, ())) = some (outU (par q l (l.length + 1) 0 (q, ([], []))).1 l) := by
  apply ok_eq
  unfold m24
  dsimp only
  generalize hP : par q l (l.length + 1) 0 (q, ([], [])) = P
  refine Ok.bind (S := fun r => r = P.1 ∧ Small P.1) ?_ (fun r hr => ?_)
  · refine Ok.loop l.length (fun i x => ∃ (a : Nat) (t : TX), x = ((a : Int), (t.1, (t.2.1, t.2.2))) ∧ i ≤ a ∧ UInv q l a t ∧ par q l (l.length + 1 - i) a t = P)
      ⟨0, (q, ([], [])), rfl, Nat.le_refl _, ⟨rfl, by omega, by simp, by simp, fun p hp => by simp at hp⟩, hP⟩ ?_
    rintro i x hi ⟨a, t, rfl, hia, hI, hpar⟩
    obtain ⟨n, hn⟩ : ∃ n, l.length + 1 - i = n + 1 := ⟨l.length - i, by omega⟩
    rw [hn] at hpar
    have hIa := hI.le
    have hIw := hI.w
    have hIr := hI.r
    have stop : P.1 = t → Ok (some (Sum.inr (t.1, (t.2.1, t.2.2)))) (fun s : ((Int × TyT) ⊕ TyT) => s.elim (fun y => i < l.length ∧ ∃ (a : Nat) (t : TX), y = ((a : Int), (t.1, (t.2.1, t.2.2))) ∧ i + 1 ≤ a ∧ UInv q l a t ∧ par q l (l.length + 1 - (i + 1)) a t = P) (fun r => r = P.1 ∧ Small P.1)) := fun h => Ok.inr ⟨by rw [h], by rw [h]; exact hI.small hl⟩
    refine Ok.cond (fun hc => ?_) (fun hc => stop (by rw [← hpar, par_stop (by simp only at hc; omega)]))
    have ha : a < l.length := by simp only at hc; omega
    have hba := (hb _ (getD_mem (z := []) ha))
    refine Ok.gd (by simp only; omega) (Ok.gd hc ?_)
    simp only [Int.toNat_natCast]
    rw [m38_ok _ hba.1]
    simp only [Option.bind_some]
    refine Ok.ncond (fun h1 => stop (by rw [← hpar, par_bad ha (dec1_none fun h => h1 h.1)])) (fun h1 => ?_)
    refine Ok.ncond (fun h2 => stop (by rw [← hpar, par_bad ha (dec1_none fun h => h2 h.2)])) (fun h2 => ?_)
    have hde := dec1_some h1 h2
    obtain ⟨k1, _, lt, lv, _⟩ := plain_facts (decB_plain h1)
    generalize (decB (l.getD a [])).1 = x at *
    refine Ok.cond (fun hk => stop (by rw [← hpar, par_commit ha hde hk])) (fun hk2 => ?_)
    have w1 : IntKind.wrap .i64 ((a : Int) + 1) = ((a + 1 : Nat) : Int) := wsucc (by omega)
    refine Ok.cond (fun hk3 => ?_) (fun hk3 => ?_)
    · rw [par_rev ha hde hk3] at hpar
      refine Ok.gd (by omega) (Ok.gd (by omega) (Ok.inl ⟨by omega, a + 1, (t.1, (t.2.1, t.2.2 ++ x.2.2.2.1)), ?_, by omega, ⟨hI.s, by omega, by show t.2.1.length ≤ _; omega, ?_, hI.d⟩, ?_⟩))
      · rw [w1]
      · show (t.2.2 ++ x.2.2.2.1).length ≤ _
        rw [List.length_append]; omega
      · rw [show l.length + 1 - (i + 1) = n by omega]; exact hpar
    refine Ok.cond (fun hk1 => ?_) (fun hk1 => absurd (show x.1 = 1 by omega) hk1)
    have w2 : IntKind.wrap .i64 (((l.length : Nat) : Int) - ((a + 1 : Nat) : Int)) = ((l.length - (a + 1) : Nat) : Int) := by rw [wrap64 (by omega) (by omega)]; omega
    simp only [w1, w2]
    refine Ok.cond (fun hs => stop (by rw [← hpar, par_short ha hde hk1 (by omega)])) (fun hs => ?_)
    rw [par_desc ha hde hk1 (by omega)] at hpar
    refine Ok.bind (S := fun r => r = (((a + 1 + x.2.2.1.length : Nat) : Int), (t.1, (t.2.1 ++ wr l (a + 1) x.2.2.1 x.2.2.1.length, t.2.2)))) ?_ (fun r hr => ?_)
    rotate_left
    · subst hr
      refine Ok.inl ⟨by omega, a + 1 + x.2.2.1.length, (t.1, (t.2.1 ++ wr l (a + 1) x.2.2.1 x.2.2.1.length, t.2.2)), rfl, by omega, ⟨hI.s, by omega, ?_, ?_, ?_⟩, ?_⟩
      · show (t.2.1 ++ wr l (a + 1) x.2.2.1 x.2.2.1.length).length ≤ _
        rw [List.length_append, wr_len]; omega
      · show t.2.2.length ≤ _
        omega
      · intro p hp
        rcases List.mem_append.1 hp with hp | hp
        · exact hI.d p hp
        · exact wr_ok hb (by omega) p hp
      · rw [show l.length + 1 - (i + 1) = n by omega]; exact hpar
    refine Ok.loop x.2.2.1.length (fun j y => y = (((a + 1 + j : Nat) : Int), ((j : Int), (t.1, (t.2.1 ++ wr l (a + 1) x.2.2.1 j, t.2.2))))) (by simp [wr]) ?_
    rintro j y hj rfl
    refine Ok.cond (fun hc2 => ?_) (fun hc2 => ?_)
    rotate_left
    · obtain rfl : j = x.2.2.1.length := by simp only at hc2; omega
      exact Ok.inr rfl
    have hj' : j < x.2.2.1.length := by simp only at hc2; omega
    have haj : a + 1 + j < l.length := by omega
    have hbj := hb _ (getD_mem (z := []) haj)
    have hwl := wr_len l (a + 1) x.2.2.1 j
    refine Ok.gd (by simp only; omega) (Ok.gd hc2 (Ok.gd (by simp only; omega) (Ok.gd (by simp only; omega) ?_)))
    simp only [Int.toNat_natCast]
    rw [m39_ok _ _ hbj.2]
    simp only [Option.bind_some, List.length_append, hwl, List.length_cons, List.length_nil]
    refine Ok.gd (by omega) (Ok.gd (by omega) (Ok.inl ⟨hj', ?_⟩))
    rw [wsucc (by omega), wsucc (by omega), wr_succ, List.append_assoc, Nat.add_assoc (a + 1) j 1]
  obtain ⟨rfl, hs⟩ := hr
  generalize P.1 = t at *
  rw [m40_ok t hs]
  simp only [Option.bind_some]
  unfold outU
  by_cases hok : okT t
  rotate_left
  · rw [if_neg hok, if_neg (fun h => hok h.1)]
    exact Ok.ncond (fun _ => Ok.some rfl) (fun h => absurd h (by decide))
  rw [if_pos hok]
  have hpb := pack_bytes (t := t) fun p hp => (hs.d p hp).1
  generalize packB t = pk at *
  dsimp only
  refine Ok.ncond (fun h => (h (by simp)).elim) (fun _ => Ok.cond (fun h => Ok.some ?_) (fun hle => ?_))
  · rw [if_neg (fun h2 => by have := h2.2.1; omega)]; rfl
  have hle' : pk.length ≤ l.length := by omega
  have et : List.take (Int.toNat ((pk.length : Nat) : Int) - Int.toNat 0) (List.drop (Int.toNat 0) l) = l.take pk.length := by
    rw [Int.toNat_natCast]; rfl
  have htl : (l.take pk.length).length = pk.length := by rw [List.length_take]; omega
  simp only [et, htl]
  refine Ok.gd (by omega) (Ok.gd (by omega) (Ok.ncond (fun h => (h (by simp)).elim) (fun _ => ?_)))
  refine Ok.bind (S := fun r => (r = .inl () ∧ pk = l.take pk.length) ∨ (r = .inr false ∧ pk ≠ l.take pk.length)) ?_ ?_
  · refine Ok.loop pk.length (fun i x => x = (i : Int) ∧ ∀ j, j < i → pk.getD j [] = (l.take pk.length).getD j []) ⟨rfl, fun j hj => by omega⟩ ?_
    rintro i x hi ⟨rfl, h⟩
    refine Ok.cond (fun hc => ?_) (fun hc => Ok.inr (.inl ⟨rfl, ext_getDL htl.symm fun j hj => h j (by omega)⟩))
    have hi' : i < pk.length := by omega
    refine Ok.gd (by omega) (Ok.gd hc (Ok.gd (by omega) (Ok.gd hc ?_)))
    simp only [Int.toNat_natCast]
    unfold m37
    simp only [Option.bind_some]
    have hin := ofNums_inj (hpb _ (getD_mem (z := []) hi')) (hb _ (List.mem_of_mem_take (getD_mem (z := []) (show i < (l.take pk.length).length by omega)))).1
    refine Ok.condb (fun hne => Ok.inr (.inr ⟨rfl, fun hh => ?_⟩)) (fun he => Ok.inl ⟨hi', wsucc (by omega), fun j hj => ?_⟩)
    · have := hin.2 (congrArg (fun z => List.getD z i []) hh)
      rw [this] at hne; simp at hne
    · by_cases e : j = i
      · subst e; exact hin.1 (by simpa using he)
      · exact h j (by omega)
  · rintro r (⟨rfl, h⟩ | ⟨rfl, h⟩)
    · exact Ok.some (by rw [if_pos ⟨hok, hle', h⟩])
    · exact Ok.some (by rw [if_neg (fun h2 => h h2.2.2)]; rfl)

end Go.Proofs.Ytjleeabhpfmhaaa
end

section
namespace Go.Proofs.Ytjleeabhpfmhaaa
open Go Go.Proofs.AM

def atF (n s k : Int) : Int := if n < 2 ∨ s < 1 ∨ s > n - 1 ∨ k < 0 ∨ k > n - 2 then 0 else if s + k ≥ n then s + k - (n - 1) else s + k

theorem tmodN (a b : Nat) : Int.tmod (a : Int) (b : Int) = ((a % b : Nat) : Int) := rfl

theorem m10_ok (n : Nat) (hn : n ≤ 1000) (s k : Int) : m10 ((n : Int), (s, (k, ()))) = some (atF n s k, ()) := by
  apply ok_eq
  unfold m10
  dsimp only
  refine Ok.cond (fun h => Ok.some ?_) (fun h1 => Ok.cond (fun h => Ok.some ?_) (fun h2 => ?_))
  · unfold atF; rw [if_pos (by omega)]
  · unfold atF; rw [if_pos (by omega)]
  have w1 : IntKind.wrap .i64 ((n : Int) - 1) = (n : Int) - 1 := wrap64 (by omega) (by omega)
  have w2 : IntKind.wrap .i64 ((n : Int) - 2) = (n : Int) - 2 := wrap64 (by omega) (by omega)
  rw [w1, w2]
  refine Ok.cond (fun h => Ok.some ?_) (fun h3 => Ok.cond (fun h => Ok.some ?_) (fun h4 => Ok.cond (fun h => Ok.some ?_) (fun h5 => Ok.ite (fun h => absurd h (by omega)) (fun h6 => Ok.some ?_))))
  · unfold atF; rw [if_pos (by omega)]
  · unfold atF; rw [if_pos (by omega)]
  · unfold atF; rw [if_pos (by omega)]
  obtain ⟨s, rfl⟩ : ∃ m : Nat, s = m := ⟨s.toNat, by omega⟩
  obtain ⟨k, rfl⟩ : ∃ m : Nat, k = m := ⟨k.toNat, by omega⟩
  rw [wrap64 (n := (s : Int) - 1) (by omega) (by omega), show (s : Int) - 1 + (k : Int) = ((s - 1 + k : Nat) : Int) by omega, show (n : Int) - 1 = ((n - 1 : Nat) : Int) by omega,
    wrap64 (n := ((s - 1 + k : Nat) : Int)) (by omega) (by omega), tmodN]
  unfold atF
  rw [if_neg (by omega)]
  by_cases hge : s - 1 + k < n - 1
  · rw [Nat.mod_eq_of_lt hge, if_neg (by omega), wrap64 (by omega) (by omega)]
    congr 1; omega
  · rw [Nat.mod_eq_sub_mod (by omega), Nat.mod_eq_of_lt (by omega), if_pos (by omega), wrap64 (by omega) (by omega)]
    congr 1; omega

theorem m11_ok (n : Nat) (hn : n ≤ 1000) (s k : Int) : m11 ((n : Int), (s, (k, ()))) = some (atF n s k, ()) := by
  apply ok_eq
  unfold m11
  dsimp only
  refine Ok.cond (fun h => Ok.some ?_) (fun h1 => Ok.cond (fun h => Ok.some ?_) (fun h2 => ?_))
  · unfold atF; rw [if_pos (by omega)]
  · unfold atF; rw [if_pos (by omega)]
  have w1 : IntKind.wrap .i64 ((n : Int) - 1) = (n : Int) - 1 := wrap64 (by omega) (by omega)
  have w2 : IntKind.wrap .i64 ((n : Int) - 2) = (n : Int) - 2 := wrap64 (by omega) (by omega)
  rw [w1, w2]
  refine Ok.cond (fun h => Ok.some ?_) (fun h3 => Ok.cond (fun h => Ok.some ?_) (fun h4 => Ok.cond (fun h => Ok.some ?_) (fun h5 => ?_)))
  · unfold atF; rw [if_pos (by omega)]
  · unfold atF; rw [if_pos (by omega)]
  · unfold atF; rw [if_pos (by omega)]
  have w3 : IntKind.wrap .i64 (s + k) = s + k := wrap64 (by omega) (by omega)
  simp only [w3]
  refine Ok.cond (fun h => Ok.some ?_) (fun h => Ok.some ?_)
  · unfold atF; rw [if_neg (by omega), if_pos (by omega), wrap64 (by omega) (by omega)]
  · unfold atF; rw [if_neg (by omega), if_neg (by omega)]

theorem atF_in {n s k : Int} (h1 : 2 ≤ n) (h2 : 1 ≤ s) (h3 : s ≤ n - 1) (h4 : 0 ≤ k) (h5 : k ≤ n - 2) : 1 ≤ atF n s k ∧ atF n s k < n := by
  unfold atF
  rw [if_neg (by omega)]
  split <;> omega

noncomputable def unp (q : Int) (l : List (List Int)) : UR := outU (par q l (l.length + 1) 0 (q, ([], []))).1 l

theorem unp_facts {q : Int} {l : List (List Int)} (h : (unp q l).2.2.1 = 0) : ∃ m : Nat, (unp q l).2.1 = (m : Int) ∧ 1 ≤ m ∧ m ≤ l.length ∧ okT (unp q l).1 := by
  unfold unp outU at *
  split
  · rename_i hc
    exact ⟨_, rfl, by simp [packB], hc.2.1, hc.1⟩
  · rename_i hc
    rw [if_neg hc] at h
    exact absurd h (by decide)

open Classical in
noncomputable def scn (ring : List (List Int)) : Nat → Nat → List TX → Int → Nat × (List TX × Int)
  | 0, a, T, q => (a, (T, q))
  | n + 1, a, T, q => if q ≤ 281474976710656 ∧ a < ring.length ∧ (unp q (ring.drop a)).2.2.1 = 0 then scn ring n (a + (unp q (ring.drop a)).2.1.toNat) (T ++ [(unp q (ring.drop a)).1]) (q + 1) else (a, (T, q))

structure SInv (ring : List (List Int)) (i a : Nat) (T : List TX) (q : Int) (F : Nat × (List TX × Int)) : Prop where
  ia : i ≤ a
  le : a ≤ ring.length
  tl : T.length ≤ a
  ok : ∀ t ∈ T, okT t
  q1 : 1 ≤ q
  q2 : q ≤ 281474976710657
  eq : scn ring (ring.length + 1 - i) a T q = F

theorem SInv.stop {ring : List (List Int)} {i a : Nat} {T : List TX} {q : Int} {F : Nat × (List TX × Int)} (h : SInv ring i a T q F) (hi : i ≤ ring.length) (hs : ¬ (q ≤ 281474976710656 ∧ a < ring.length ∧ (unp q (ring.drop a)).2.2.1 = 0)) : F = (a, (T, q)) := by
  have := h.eq
  rw [show ring.length + 1 - i = (ring.length - i) + 1 by omega, scn, if_neg hs] at this
  exact this.symm

theorem SInv.go {ring : List (List Int)} {i a : Nat} {T : List TX} {q : Int} {F : Nat × (List TX × Int)} (h : SInv ring i a T q F) (hi : i ≤ ring.length) (h1 : q ≤ 281474976710656) (h2 : a < ring.length) (h3 : (unp q (ring.drop a)).2.2.1 = 0) :
    i < ring.length ∧ ∃ m : Nat, (unp q (ring.drop a)).2.1 = (m : Int) ∧ a + m ≤ ring.length ∧ SInv ring (i + 1) (a + m) (T ++ [(unp q (ring.drop a)).1]) (q + 1) F := by
  obtain ⟨m, hm, m1, m2, hok⟩ := unp_facts h3
  rw [List.length_drop] at m2
  have := h.eq
  have hia := h.ia
  have htl := h.tl
  have hq1 := h.q1
  rw [show ring.length + 1 - i = (ring.length - i) + 1 by omega, scn, if_pos ⟨h1, h2, h3⟩, hm] at this
  refine ⟨by omega, m, hm, by omega, by omega, by omega, by simp; omega, fun t ht => ?_, by omega, by omega, ?_⟩
  · rcases List.mem_append.1 ht with ht | ht
    · exact h.ok t ht
    · rw [List.mem_singleton] at ht
      subst ht; exact hok
  · rw [show ring.length + 1 - (i + 1) = ring.length - i by omega]
    simpa using this

abbrev LG := (List TyT) × (Int × Int)
abbrev SR := LG × (Int × Unit)

def ringF (region : List (List Int)) (s : Int) (k : Nat) : List (List Int) := (List.range k).map fun (i : Nat) => region.getD (atF (region.length : Int) s (i : Int)).toNat []
theorem ringF_succ (region : List (List Int)) (s : Int) (k : Nat) : ringF region s (k + 1) = ringF region s k ++ [region.getD (atF (region.length : Int) s (k : Int)).toNat []] := by unfold ringF; rw [List.range_succ, List.map_append]; rfl
theorem ringF_len (region : List (List Int)) (s : Int) (k : Nat) : (ringF region s k).length = k := by simp [ringF]

noncomputable def scanR (region : List (List Int)) (s q : Int) : SR :=
  (((scn (ringF region s (region.length - 1)) region.length 0 [] q).2.1,
    (atF (region.length : Int) s (((scn (ringF region s (region.length - 1)) region.length 0 [] q).1 % (region.length - 1) : Nat) : Int), (scn (ringF region s (region.length - 1)) region.length 0 [] q).2.2)), (0, ()))

open Classical in
noncomputable def scanF (region : List (List Int)) : SR :=
  if region.length < 16 ∨ 64 < region.length then (([], (0, 0)), (1, ()))
  else if (dsup (region.getD 0 [])).2.1 = 0 then
    (if (dsup (region.getD 0 [])).1.1 ≥ (region.length : Int) then (([], (0, 0)), (170, ()))
     else if (dsup (region.getD 0 [])).1.1 = 0 then (([], (1, (dsup (region.getD 0 [])).1.2)), (0, ()))
     else scanR region (dsup (region.getD 0 [])).1.1 (dsup (region.getD 0 [])).1.2)
  else (([], (0, 0)), (170, ()))

theorem dsup_ok {b : List Int} (h : (dsup b).2.1 = 0) : okS (dsup b).1.1 (dsup b).1.2 := by
  unfold dsup at *
  split
  · rename_i hc; exact hc.2.1
  · rename_i hc
    rw [if_neg hc] at h
    exact absurd h (by decide)
theorem dsup_bad {b : List Int} (h : ¬ (dsup b).2.1 = 0) : (dsup b).2.1 = 170 := by
  unfold dsup at *
  split
  · rename_i hc
    rw [if_pos hc] at h
    exact absurd rfl h
  · rfl

theorem scan_start (ring : List (List Int)) (n : Nat) (hn : ring.length + 1 = n) (q : Int) (h1 : 1 ≤ q) (h2 : q ≤ 281474976710656) : SInv ring 0 0 [] q (scn ring n 0 [] q) :=
  ⟨Nat.le_refl _, by omega, by simp, fun t h => by simp at h, h1, by omega, by rw [← hn]; simp⟩

theorem m7_ok (region : List (List Int)) (hl : region.length ≤ 140737488355328) (hb : ∀ b ∈ region, Bytes b ∧ b.length ≤ 140737488355328) :
    Ok (m7 (region, ())) (fun r => r = scanF region ∧ r.1.1.length ≤ 64 ∧ ∀ t ∈ r.1.1, okT t) := by
  unfold m7
  dsimp only
  have nil : ([] : List TX).length ≤ 64 ∧ ∀ t ∈ ([] : List TX), okT t := ⟨by simp, fun t h => by simp at h⟩
  refine Ok.cond (fun h16 => Ok.ncond (fun h => Ok.some ⟨?_, nil⟩) (fun h64 => ?_)) (fun h => Ok.some ⟨?_, nil⟩)
  · unfold scanF; rw [if_pos (by omega)]
  rotate_left
  · unfold scanF; rw [if_pos (by omega)]
  refine Ok.gd (by omega) ?_
  have h0 : (region.getD (Int.toNat 0) []) = region.getD 0 [] := rfl
  have hb0 := hb _ (getD_mem (z := []) (show 0 < region.length by omega))
  have hgs : ¬ (region.length < 16 ∨ 64 < region.length) := by omega
  rw [h0, m23_ok _ hb0.1]
  simp only [Option.bind_some]
  refine Ok.ncond (fun h => Ok.some ⟨?_, nil⟩) (fun h => ?_)
  · unfold scanF; rw [if_neg hgs, if_neg h, dsup_bad h]
  have hds := dsup_ok h
  refine Ok.cond (fun h1 => Ok.some ⟨?_, nil⟩) (fun h1 => Ok.cond (fun h2 => Ok.some ⟨?_, nil⟩) (fun h2 => ?_))
  · unfold scanF; rw [if_neg hgs, if_pos h, if_pos h1]
  · unfold scanF; rw [if_neg hgs, if_pos h, if_neg h1, if_pos h2]
  have hres : scanF region = scanR region (dsup (region.getD 0 [])).1.1 (dsup (region.getD 0 [])).1.2 := by unfold scanF; rw [if_neg hgs, if_pos h, if_neg h1, if_neg h2]
  rw [hres]
  obtain ⟨s0, s1, q0, q1⟩ := hds
  generalize (dsup (region.getD 0 [])).1.1 = s at *
  generalize (dsup (region.getD 0 [])).1.2 = q at *
  unfold scanR
  have w1 : IntKind.wrap .i64 (((region.length : Nat) : Int) - 1) = ((region.length - 1 : Nat) : Int) := by rw [wrap64 (by omega) (by omega)]; omega
  simp only [w1]
  refine Ok.bind (S := fun r => r = ringF region s (region.length - 1)) ?_ (fun r hr => ?_)
  · refine Ok.loop (region.length - 1) (fun i x => x = (ringF region s i, (i : Int))) rfl ?_
    rintro i x hi rfl
    refine Ok.cond (fun hc => ?_) (fun hc => ?_)
    rotate_left
    · obtain rfl : i = region.length - 1 := by simp only at hc; omega
      exact Ok.inr rfl
    simp only at hc
    have ha := atF_in (n := (region.length : Int)) (s := s) (k := (i : Int)) (by omega) (by omega) (by omega) (by omega) (by omega)
    have hrl := ringF_len region s i
    dsimp only
    rw [m10_ok region.length (by omega)]
    simp only [Option.bind_some, List.length_cons, List.length_nil, hrl]
    refine Ok.gd (by omega) (Ok.gd (by omega) (Ok.gd (by omega) (Ok.gd (by omega) (Ok.inl ⟨by omega, ?_⟩))))
    rw [wsucc (by omega), ringF_succ]
  subst hr
  have hrl := ringF_len region s (region.length - 1)
  have hrb : ∀ b ∈ ringF region s (region.length - 1), Bytes b ∧ b.length ≤ 140737488355328 := by
    intro b hbm
    unfold ringF at hbm
    obtain ⟨i, hi, rfl⟩ := List.mem_map.1 hbm
    have hi := List.mem_range.1 hi
    have ha := atF_in (n := (region.length : Int)) (s := s) (k := (i : Int)) (by omega) (by omega) (by omega) (by omega) (by omega)
    exact hb _ (getD_mem (by omega))
  have hst := scan_start (ringF region s (region.length - 1)) region.length (by omega) q q0 q1
  generalize ringF region s (region.length - 1) = ring at *
  generalize scn ring region.length 0 [] q = F at *
  refine Ok.bind (S := fun r => r = ((F.1 : Int), (F.2.1, (0, F.2.2))) ∧ F.1 ≤ ring.length ∧ F.2.1.length ≤ 64 ∧ ∀ t ∈ F.2.1, okT t) ?_ (fun r hr => ?_)
  · refine Ok.loop ring.length (fun i x => ∃ (a : Nat) (T : List TX) (q' : Int), x = ((a : Int), (T, (0, q'))) ∧ SInv ring i a T q' F) ⟨0, [], q, rfl, hst⟩ ?_
    rintro i x hi ⟨a, T, q', rfl, hI⟩
    have hia := hI.le
    have hit := hI.tl
    have hq1 := hI.q1
    have hq2 := hI.q2
    have stop : ¬ (q' ≤ 281474976710656 ∧ a < ring.length ∧ (unp q' (ring.drop a)).2.2.1 = 0) → Ok (some (Sum.inr ((a : Int), (T, ((0 : Int), q'))))) (fun s : ((Int × ((List TyT) × (Int × Int))) ⊕ (Int × ((List TyT) × (Int × Int)))) => s.elim (fun y => i < ring.length ∧ ∃ (a : Nat) (T : List TX) (q' : Int), y = ((a : Int), (T, (0, q'))) ∧ SInv ring (i + 1) a T q' F) (fun r => r = ((F.1 : Int), (F.2.1, (0, F.2.2))) ∧ F.1 ≤ ring.length ∧ F.2.1.length ≤ 64 ∧ ∀ t ∈ F.2.1, okT t)) := fun h => by
      have := hI.stop hi h
      rw [this]
      exact Ok.inr ⟨rfl, hia, by show T.length ≤ 64; omega, hI.ok⟩
    refine Ok.cond (fun hqm => Ok.cond (fun hc => ?_) (fun hc => stop (fun h => hc (by show (a : Int) < _; omega)))) (fun hqm => stop (fun h => hqm h.1))
    have hc' : a < ring.length := by simp only at hc; omega
    have et : List.take (Int.toNat ((ring.length : Nat) : Int) - Int.toNat ((a : Nat) : Int)) (List.drop (Int.toNat ((a : Nat) : Int)) ring) = ring.drop a := by
      rw [Int.toNat_natCast, Int.toNat_natCast]
      exact List.take_of_length_le (by simp)
    simp only [et]
    refine Ok.gd (by omega) (Ok.gd (by omega) (Ok.gd (by omega) ?_))
    have hm24 : m24 (q', (ring.drop a, ())) = some (unp q' (ring.drop a)) := m24_ok q' (ring.drop a) (by rw [List.length_drop]; omega) (fun b hb => hrb b (List.mem_of_mem_drop hb))
    rw [hm24]
    simp only [Option.bind_some]
    refine Ok.ncond (fun h => stop (fun h2 => h h2.2.2)) (fun h3 => ?_)
    obtain ⟨hil, m, hm, ham, hI2⟩ := hI.go hi hqm hc' h3
    rw [hm]
    simp only [List.length_cons, List.length_nil]
    refine Ok.gd (by omega) (Ok.gd (by omega) (Ok.inl ⟨hil, a + m, _, q' + 1, ?_, hI2⟩))
    rw [wrap64 (by omega) (by omega), wrap64 (by omega) (by omega)]
    push_cast; rfl
  obtain ⟨rfl, hF1, hF2, hF3⟩ := hr
  refine Ok.ite (fun h => absurd h (by omega)) (fun _ => ?_)
  dsimp only
  rw [tmodN, m10_ok region.length (by omega)]
  exact Ok.some ⟨rfl, hF2, hF3⟩

theorem m29_self (l : List Int) (h : l.length ≤ 100000) : m29 (l, (l, ())) = some (true, ()) := by
  apply ok_eq
  unfold m29
  dsimp only
  refine Ok.ncond (fun h => (h rfl).elim) (fun _ => Ok.bind (S := fun r => r = .inl ()) ?_ (fun r hr => by subst hr; exact Ok.some rfl))
  refine Ok.loop l.length (fun i x => x = (i : Int)) rfl ?_
  rintro i x hi rfl
  refine Ok.cond (fun hc => ?_) (fun hc => Ok.inr rfl)
  exact Ok.gd (by omega) (Ok.gd hc (Ok.gd (by omega) (Ok.gd hc (Ok.ncond (fun h => (h rfl).elim) (fun _ => Ok.inl ⟨by omega, wsucc (by omega)⟩)))))

theorem m16_self (l : List (Int × List Int)) (h : l.length ≤ 100000) : m16 (l, (l, ())) = some (true, ()) := by
  apply ok_eq
  unfold m16
  dsimp only
  refine Ok.ncond (fun h => (h rfl).elim) (fun _ => Ok.bind (S := fun r => r = .inl ()) ?_ (fun r hr => by subst hr; exact Ok.some rfl))
  refine Ok.loop l.length (fun i x => x = (i : Int)) rfl ?_
  rintro i x hi rfl
  refine Ok.cond (fun hc => ?_) (fun hc => Ok.inr rfl)
  refine Ok.gd (by omega) (Ok.gd hc (Ok.gd (by omega) (Ok.gd hc (Ok.ncond (fun h => (h rfl).elim) (fun _ => Ok.gd (by omega) (Ok.gd hc (Ok.gd (by omega) (Ok.gd hc ?_))))))))
  have : ∀ b : ByteArray, streq b b = true := fun b => (streq_iff b b).2 rfl
  rw [this]
  exact Ok.condb (fun h => absurd h (by decide)) (fun _ => Ok.inl ⟨by omega, wsucc (by omega)⟩)

theorem m14_self (t : TX) (h1 : t.2.1.length ≤ 100000) (h2 : t.2.2.length ≤ 100000) : m14 (t, (t, ())) = some (true, ()) := by
  apply ok_eq
  unfold m14
  dsimp only
  refine Ok.cond (fun _ => ?_) (fun h => (h rfl).elim)
  rw [m16_self _ h1]
  simp only [Option.bind_some, cond_true]
  rw [m29_self _ h2]
  exact Ok.some rfl

end Go.Proofs.Ytjleeabhpfmhaaa
end

section
namespace Go.Proofs.Ytjleeabhpfmhaaa
open Go Go.Proofs.AM

abbrev DK := (List (List Int)) × ((List Bool) × (Bool × (Bool × (Int × (Int × (List (Int × (List Int))))))))
def D (S : List (List Int)) (w : Int) (g : List (Int × List Int)) : DK := (S, (List.replicate 20 false, (false, (false, (0, (w, g))))))
def Z : List Int := List.replicate 256 0

theorem m137_D (S : List (List Int)) (w : Int) (g : List (Int × List Int)) (h : S.length = 20) : m137 (D S w g, ()) = some (D S w g, (20, ())) := by
  apply ok_eq
  unfold m137 D
  dsimp only
  refine Ok.cond (fun h2 => absurd h2 (by omega)) (fun _ => Ok.some ?_)
  rw [h]; rfl

theorem m134_D (S : List (List Int)) (w : Int) (g : List (Int × List Int)) (h : S.length = 20) : m134 (D S w g, ()) = some (D S w g, (0, ())) := by
  apply ok_eq
  unfold m134 D
  dsimp only
  refine Ok.cond (fun h2 => absurd h2 (by omega)) (fun _ => Ok.some rfl)

theorem m135_D (S : List (List Int)) (w : Int) (g : List (Int × List Int)) (h : S.length = 20) (hS : ∀ b ∈ S, b.length = 256) (i : Nat) (hi : i < 20) : m135 (D S w g, ((i : Int), ())) = some (D S w g, (S.getD i [], (0, ()))) := by
  apply ok_eq
  unfold m135 D
  dsimp only
  have hrl : (List.replicate 20 false).length = 20 := List.length_replicate
  refine Ok.cond (fun h2 => absurd h2 (by omega)) (fun _ => Ok.condb (fun h => by simp at h) (fun _ => Ok.cond (fun _ => Ok.ncond (fun h2 => absurd (by omega) h2) (fun _ => ?_)) (fun h2 => absurd (by omega) h2)))
  refine Ok.gd (by omega) (Ok.gd (by rw [hrl]; omega) (Ok.gd (by rw [hrl]; omega) (Ok.condb (fun h2 => ?_) (fun _ => Ok.gd (by omega) (Ok.gd (by omega) (Ok.gd (by omega) ?_))))))
  · rw [List.getD_eq_getElem?_getD, List.getElem?_replicate] at h2
    split at h2 <;> simp at h2
  · simp only [Int.toNat_natCast]
    have := hS _ (getD_mem (z := []) (show i < S.length by omega))
    rw [m52_ok _ (by omega)]
    exact Ok.some rfl

theorem m138_D (S : List (List Int)) (h : S.length = 20) (b : List Int) (hb : b.length = 256) : m138 (D S 0 [], ((2 : Int), (b, ()))) = some (D (S.set 2 b) 1 [(2, b)], (0, ())) := by
  apply ok_eq
  unfold m138 D
  dsimp only
  have hrl : (List.replicate 20 false).length = 20 := List.length_replicate
  refine Ok.cond (fun h2 => absurd h2 (by omega)) (fun _ => Ok.condb (fun h => by simp at h) (fun _ => Ok.cond (fun _ => Ok.ncond (fun h2 => absurd (by omega) h2) (fun _ => Ok.ncond (fun h2 => absurd (by omega) h2) (fun _ => Ok.condb (fun h => by simp at h) (fun _ => ?_)))) (fun h2 => absurd (by omega) h2)))
  rw [m52_ok b (by omega)]
  simp only [Option.bind_some]
  refine Ok.gd (by omega) (Ok.gd (by omega) (Ok.gd (by rw [h]; decide) (Ok.gd (by omega) (Ok.gd (by rw [hrl]; decide) (Ok.gd (by rw [hrl]; decide) ?_)))))
  simp only [List.nil_append, List.length_cons, List.length_nil]
  have hw : IntKind.wrap .i64 ((((0 + 1 : Nat) : Int)) - 1024) = -1023 := by rw [wrap64 (by omega) (by omega)]; rfl
  simp only [hw, show ¬ ((-1023 : Int) > 0) by decide, if_false]
  refine Ok.gd (by omega) (Ok.gd (by omega) (Ok.gd (by omega) (Ok.gd (by omega) (Ok.gd (by omega) (Ok.some ?_)))))
  rfl

theorem supF_parts (s q : Nat) : ((supF s q).drop 4).take 4 = be s 4 ∧ ((supF s q).drop 8).take 8 = be q 8 := by
  have e : ∃ z, supF s q = be 1397508656 4 ++ (be s 4 ++ (be q 8 ++ z)) := ⟨List.replicate 236 0 ++ be (Zn (sup s q) (sup s q).length) 4, by simp only [supF, sealed, sup, List.append_assoc]⟩
  obtain ⟨z, e⟩ := e
  have d4 : (supF s q).drop 4 = be s 4 ++ (be q 8 ++ z) := by rw [e, drop_len _ _ _ (be_len _ _)]
  refine ⟨by rw [d4, take_len _ _ _ (be_len _ _)], ?_⟩
  rw [show (8 : Nat) = 4 + 4 from rfl, ← List.drop_drop, d4, drop_len _ _ _ (be_len _ _), take_len _ _ _ (be_len _ _)]

theorem dsup_supF (s q : Nat) (h : okS s q) : dsup (supF s q) = (((s : Int), (q : Int)), (0, ())) := by
  obtain ⟨e1, e2⟩ := supF_parts s q
  obtain ⟨s0, s1, q0, q1⟩ := h
  have v1 : val (be s 4) = s := val_be (by omega)
  have v2 : val (be q 8) = q := val_be (by omega)
  unfold dsup
  rw [e1, e2, v1, v2]
  rw [if_pos ⟨by rw [supF, sealed_len, sup_len], ⟨s0, s1, q0, q1⟩, rfl⟩]

theorem Z_bytes : Bytes Z := Bytes.zeros _

theorem m7_live (l : List (List Int)) (hl : l.length = 16) (hb : ∀ b ∈ l, Bytes b ∧ b.length = 256) (h0 : l.getD 0 [] = supF 0 1) : m7 (l, ()) = some (([], (1, 1)), (0, ())) := by
  obtain ⟨r, hr, he, _⟩ := m7_ok l (by omega) (fun b hm => ⟨(hb b hm).1, by have := (hb b hm).2; omega⟩)
  rw [hr, he]
  have hd : dsup (l.getD 0 []) = (((0 : Int), (1 : Int)), (0, ())) := by rw [h0]; exact dsup_supF 0 1 ⟨by decide, by decide, by decide, by decide⟩
  unfold scanF
  rw [hd, if_neg (by omega), if_pos rfl, if_neg (by rw [hl]; decide), if_pos rfl]

def rd (S : List (List Int)) (k : Nat) : List (List Int) := (List.range k).map fun j => S.getD (2 + j) []
theorem rd_succ (S : List (List Int)) (k : Nat) : rd S (k + 1) = rd S k ++ [S.getD (2 + k) []] := by unfold rd; rw [List.range_succ, List.map_append]; rfl
theorem rd_len (S : List (List Int)) (k : Nat) : (rd S k).length = k := by simp [rd]

theorem m6_ok : m6 () = some (true, ()) := by
  apply ok_eq
  unfold m6
  refine Ok.gd (by decide) ?_
  refine Ok.bind (S := fun r => r = D (List.replicate 20 Z) 0 []) ?_ (fun r hr => ?_)
  · refine Ok.loop 20 (fun i x => x = ((i : Int), D (List.replicate i Z) 0 [])) rfl ?_
    rintro i x hi rfl
    refine Ok.cond (fun hc => ?_) (fun hc => ?_)
    rotate_left
    · obtain rfl : i = 20 := by simp only at hc; omega
      exact Ok.inr rfl
    have hi' : i < 20 := by simp only at hc; omega
    have hZ : List.replicate (Int.toNat 256) (0 : Int) = Z := rfl
    have hl : (List.replicate i Z).length = i := List.length_replicate
    unfold D
    simp only [hZ, List.length_cons, List.length_nil, hl]
    refine Ok.gd (by decide) (Ok.gd (by omega) (Ok.gd (by omega) (Ok.inl ⟨hi', ?_⟩)))
    rw [wsucc (by omega), ← List.replicate_succ']
  subst hr
  have hS0 : (List.replicate 20 Z).length = 20 := List.length_replicate
  have h10 : m10 ((16 : Int), ((15 : Int), ((1 : Int), ()))) = some (1, ()) := (m10_ok 16 (by omega) 15 1).trans rfl
  rw [h10]
  simp only [Option.bind_some]
  refine Ok.ncond (fun h => (h (by simp)).elim) (fun _ => ?_)
  rw [m137_D _ _ _ hS0]
  simp only [Option.bind_some]
  have hw : IntKind.wrap .i64 ((20 : Int) - 16) = 4 := rfl
  rw [hw]
  refine Ok.cond (fun h => absurd h (by decide)) (fun _ => ?_)
  have h36 : m36 (((0 : Int), (1 : Int)), ()) = some (supF 0 1, (0, ())) := by
    rw [m36_ok, if_pos ⟨by decide, by decide, by decide, by decide⟩]; rfl
  rw [h36]
  simp only [Option.bind_some]
  refine Ok.ncond (fun h => (h (by simp)).elim) (fun _ => ?_)
  have hsl : (supF 0 1).length = 256 := by rw [supF, sealed_len, sup_len]
  have hsb : Bytes (supF 0 1) := sealed_bytes (sup_bytes 0 1)
  rw [m138_D _ hS0 _ hsl]
  simp only [Option.bind_some]
  refine Ok.ncond (fun h => (h (by simp)).elim) (fun _ => ?_)
  have hS1 : ((List.replicate 20 Z).set 2 (supF 0 1)).length = 20 := by rw [List.length_set, hS0]
  have hSb : ∀ b ∈ (List.replicate 20 Z).set 2 (supF 0 1), Bytes b ∧ b.length = 256 := by
    intro b hb
    rcases List.mem_or_eq_of_mem_set hb with h | h
    · rw [List.eq_of_mem_replicate h]; exact ⟨Z_bytes, List.length_replicate⟩
    · rw [h]; exact ⟨hsb, hsl⟩
  have hS2 : ((List.replicate 20 Z).set 2 (supF 0 1)).getD 2 [] = supF 0 1 := by
    rw [List.getD_eq_getElem?_getD, List.getElem?_set, if_pos rfl, if_pos (by rw [hS0]; decide)]; rfl
  generalize (List.replicate 20 Z).set 2 (supF 0 1) = S at *
  rw [m134_D _ _ _ hS1]
  simp only [Option.bind_some]
  rw [m137_D _ _ _ hS1]
  simp only [Option.bind_some]
  rw [hw]
  refine Ok.cond (fun h => absurd h (by decide)) (fun _ => ?_)
  refine Ok.bind (S := fun r => r = .inl (rd S 16, D S 1 [(2, supF 0 1)])) ?_ (fun r hr => ?_)
  · refine Ok.loop 16 (fun i x => x = (rd S i, ((i : Int), D S 1 [(2, supF 0 1)]))) rfl ?_
    rintro i x hi rfl
    refine Ok.cond (fun hc => ?_) (fun hc => ?_)
    rotate_left
    · obtain rfl : i = 16 := by simp only at hc; omega
      exact Ok.inr rfl
    have hi' : i < 16 := by simp only at hc; omega
    have hwi : IntKind.wrap .i64 ((2 : Int) + (i : Int)) = ((2 + i : Nat) : Int) := by rw [wrap64 (by omega) (by omega)]; push_cast; rfl
    dsimp only
    rw [hwi, m135_D _ _ _ hS1 (fun b hb => (hSb b hb).2) (2 + i) (by omega)]
    simp only [Option.bind_some]
    refine Ok.ncond (fun h => (h (by simp)).elim) (fun _ => ?_)
    have hl := rd_len S i
    simp only [List.length_cons, List.length_nil, hl]
    refine Ok.gd (by omega) (Ok.gd (by omega) (Ok.inl ⟨hi', ?_⟩))
    rw [wsucc (by omega), rd_succ]
  subst hr
  have h7 := m7_live (rd S 16) (rd_len S 16) (fun b hb => by
    unfold rd at hb
    obtain ⟨j, hj, rfl⟩ := List.mem_map.1 hb
    have hj := List.mem_range.1 hj
    exact hSb _ (getD_mem (by omega))) hS2
  refine Ok.elim (fun y hy => ?_) (fun y hy => by simp at hy)
  simp only [Sum.inl.injEq] at hy
  subst hy
  refine Ok.ncond (fun h => (h (by simp)).elim) (fun _ => Ok.ncond (fun h => (h (by show ((List.length (rd S 16) : Nat) : Int) = 16; rw [rd_len]; rfl)).elim) (fun _ => ?_))
  dsimp only
  rw [h7]
  exact Ok.some rfl
end Go.Proofs.Ytjleeabhpfmhaaa
end

section
namespace Go.Proofs.Ytjleeabhpfmhaaa
open Go Go.Proofs.AM

def Zp : List Int := List.replicate 256 0
def pageF (f : List Int) (i : Nat) : List Int := if 0 < f.length then Zp.set 0 (f.getD (i % f.length) 0) else Zp

theorem encB_take (x : JB) : (encB x).take 4 = MG := by
  obtain ⟨z, e⟩ := encB_eq x
  rw [e, take_len _ _ _ (be_len _ _)]; rfl

theorem cpy_ne (p : Int × List Int) (x : JB) : cpy p ≠ encB x := by
  intro h
  have h := congrArg (List.take 4) h
  rw [encB_take] at h
  unfold cpy esc at h
  split at h
  · rw [take_len _ _ _ (by simp)] at h
    exact absurd h (by decide)
  · rename_i hne; exact hne h

theorem page_take (f : List Int) (i : Nat) : ∃ a, (pageF f i).take 4 = [a, 0, 0, 0] := by
  unfold pageF
  split
  · exact ⟨_, rfl⟩
  · exact ⟨0, rfl⟩

theorem page_ne (f : List Int) (i : Nat) (x : JB) : pageF f i ≠ encB x := by
  intro h
  have h := congrArg (List.take 4) h
  obtain ⟨a, e⟩ := page_take f i
  rw [encB_take, e] at h
  simp [MG] at h

theorem encB_inj {x y : JB} (hx : plainB x) (hy : plainB y) (h : encB x = encB y) : x = y := by rw [← cand_encB hx, ← cand_encB hy, h]

def noEnd (b : List Int) : Prop := ∀ x : JB, plainB x → x.1 = 2 → b ≠ encB x

theorem page_noEnd (f : List Int) (i : Nat) : noEnd (pageF f i) := fun x _ _ => page_ne f i x

theorem body_noEnd {t : TX} (ht : okT t) : ∀ b ∈ body t, noEnd b := by
  intro b hb x hx h2 e
  unfold body at hb
  rcases List.mem_append.1 hb with hb | hb
  · unfold rblks at hb
    obtain ⟨i, hi, rfl⟩ := List.mem_map.1 hb
    have := encB_inj (plain_rx ht (List.mem_range.1 hi)) hx e
    rw [← this] at h2
    exact absurd h2 (by show ¬ (3 : Int) = 2; decide)
  · unfold dgrps at hb
    obtain ⟨i, hi, hb⟩ := List.mem_flatMap.1 hb
    unfold dgrp at hb
    rcases List.mem_cons.1 hb with rfl | hb
    · have := encB_inj (plain_dx ht (List.mem_range.1 hi)) hx e
      rw [← this] at h2
      exact absurd h2 (by show ¬ (1 : Int) = 2; decide)
    · obtain ⟨p, _, rfl⟩ := List.mem_map.1 hb
      exact cpy_ne p x e

theorem unp_stop (q : Int) (l : List (List Int)) (h : ∀ b ∈ l, noEnd b) : ¬ (unp q l).2.2.1 = 0 := by
  unfold unp outU
  generalize (par q l (l.length + 1) 0 (q, ([], []))).1 = t
  split
  · rename_i hc
    exfalso
    have hm : encB (cx t) ∈ packB t := by simp [packB]
    rw [hc.2.2] at hm
    exact h _ (List.mem_of_mem_take hm) (cx t) (plain_cx hc.1) rfl rfl
  · decide

theorem unp_go {t : TX} (ht : okT t) (rest : List (List Int)) : unp t.1 (packB t ++ rest) = (t, ((((packB t).length : Nat) : Int), (0, ()))) := by
  unfold unp
  rw [par_pack ht rest _ (by omega)]
  unfold outU
  rw [if_pos ⟨ht, by simp, by simp⟩]

def txF (T : List TX) (i : Nat) : TX := (5 + (i : Int), (T.getD i (0, ([], []))).2)
def packs (T : List TX) (k : Nat) : List (List Int) := (List.range k).flatMap fun i => packB (txF T i)
def dones (T : List TX) (k : Nat) : List TX := (List.range k).map (txF T)
theorem packs_succ (T : List TX) (k : Nat) : packs T (k + 1) = packs T k ++ packB (txF T k) := by unfold packs; rw [List.range_succ, List.flatMap_append]; simp
theorem dones_succ (T : List TX) (k : Nat) : dones T (k + 1) = dones T k ++ [txF T k] := by unfold dones; rw [List.range_succ, List.map_append]; rfl
theorem dones_len (T : List TX) (k : Nat) : (dones T k).length = k := by simp [dones]
theorem packB_pos (t : TX) : 1 ≤ (packB t).length := by simp [packB]

theorem packs_add (T : List TX) (k : Nat) : ∀ m, ∃ r, packs T (k + m) = packs T k ++ r
  | 0 => ⟨[], by simp⟩
  | m + 1 => by
    obtain ⟨r, h⟩ := packs_add T k m
    exact ⟨r ++ packB (txF T (k + m)), by rw [← Nat.add_assoc, packs_succ, h, List.append_assoc]⟩

theorem scn_all (T : List TX) (ring : List (List Int)) (W : Nat) (R : List (List Int)) (hr : ring = packs T W ++ R) (hok : ∀ i, i < W → okT (txF T i)) (hW : W ≤ 1000) (hst : ∀ b ∈ R, noEnd b) :
    ∀ (n k : Nat), k ≤ W → W - k < n → scn ring n (packs T k).length (dones T k) (5 + (k : Int)) = ((packs T W).length, (dones T W, 5 + (W : Int))) := by
  intro n
  induction n with
  | zero => intro k _ h; omega
  | succ n ih =>
    intro k hk hn
    by_cases hkW : k = W
    · subst hkW
      rw [scn, if_neg]
      rintro ⟨_, _, h⟩
      rw [hr, drop_len _ _ _ rfl] at h
      exact unp_stop _ _ hst h
    · obtain ⟨r, h1⟩ := packs_add T (k + 1) (W - (k + 1))
      rw [show k + 1 + (W - (k + 1)) = W by omega, packs_succ] at h1
      have hd : ring.drop (packs T k).length = packB (txF T k) ++ (r ++ R) := by
        rw [hr, h1, List.append_assoc, List.append_assoc, drop_len _ _ _ rfl]
      have hu := unp_go (hok k (by omega)) (r ++ R)
      have hpos := packB_pos (txF T k)
      have hlen : (packs T k).length < ring.length := by
        rw [hr, h1]; simp only [List.length_append]; omega
      have hq : (txF T k).1 = 5 + (k : Int) := rfl
      rw [hq] at hu
      rw [scn, hd, hu, if_pos ⟨by omega, hlen, rfl⟩]
      have := ih (k + 1) (by omega) (by omega)
      rw [packs_succ, dones_succ, List.length_append] at this
      rw [← this]
      congr 1

def pos (n s j : Nat) : Nat := if s + j ≥ n then s + j - (n - 1) else s + j
theorem atF_pos {n s j : Nat} (h1 : 2 ≤ n) (h2 : 1 ≤ s) (h3 : s ≤ n - 1) (h5 : j ≤ n - 2) : atF (n : Int) (s : Int) (j : Int) = ((pos n s j : Nat) : Int) := by
  unfold atF pos
  rw [if_neg (by omega)]
  split <;> split <;> omega
theorem pos_in {n s j : Nat} (h1 : 2 ≤ n) (h2 : 1 ≤ s) (h3 : s ≤ n - 1) (h5 : j ≤ n - 2) : 1 ≤ pos n s j ∧ pos n s j < n := by
  unfold pos; split <;> omega
theorem pos_inj {n s i j : Nat} (h1 : 2 ≤ n) (h2 : 1 ≤ s) (h3 : s ≤ n - 1) (h4 : i ≤ n - 2) (h5 : j ≤ n - 2) (h : pos n s i = pos n s j) : i = j := by
  unfold pos at h
  split at h <;> split at h <;> omega
theorem getD_setL {l : List (List Int)} {i j : Nat} {y : List Int} (h : i < l.length) : (l.set i y).getD j [] = if j = i then y else l.getD j [] := by
  rw [List.getD_eq_getElem?_getD, List.getD_eq_getElem?_getD, List.getElem?_set]
  by_cases e : j = i
  · subst e; simp [h]
  · rw [if_neg (fun h => e h.symm), if_neg e]

structure LI (S F N s : Nat) (f : List Int) (L Q : List (List Int)) : Prop where
  len : L.length = S
  q : Q.length ≤ N - 1
  on : ∀ j, j < N - 1 → L.getD (F + pos N s j) [] = if j < Q.length then Q.getD j [] else pageF f (F + pos N s j)
  off : ∀ i, i < S → (∀ j, j < N - 1 → i ≠ F + pos N s j) → L.getD i [] = pageF f i

theorem LI.start {S F N s : Nat} {f : List Int} {L : List (List Int)} (hN : 2 ≤ N) (hs : 1 ≤ s) (hs2 : s < N) (hF : F + N ≤ S) (h1 : L.length = S) (h : ∀ j, j < S → L.getD j [] = pageF f j) : LI S F N s f L [] :=
  ⟨h1, by simp, fun j hj => by
    have := pos_in hN hs (by omega) (show j ≤ N - 2 by omega)
    rw [if_neg (by simp)]
    exact h _ (by omega), fun i hi _ => h i hi⟩

theorem LI.step {S F N s : Nat} {f : List Int} {L Q : List (List Int)} (h : LI S F N s f L Q) (hN : 2 ≤ N) (hs : 1 ≤ s) (hs2 : s < N) (hF : F + N ≤ S) (hq : Q.length < N - 1) (b : List Int) : LI S F N s f (L.set (F + pos N s Q.length) b) (Q ++ [b]) := by
  have hp := pos_in hN hs (by omega) (show Q.length ≤ N - 2 by omega)
  have hl := h.len
  refine ⟨by rw [List.length_set]; exact hl, by simp; omega, fun j hj => ?_, fun i hi hn => ?_⟩
  · rw [getD_setL (by omega)]
    by_cases e : j = Q.length
    · subst e
      rw [if_pos rfl, if_pos (by simp)]
      have := getD_app_r Q [b] 0 []
      exact this.symm
    · rw [if_neg (fun he => e (pos_inj hN hs (by omega) (by omega) (by omega) (by omega))), h.on j hj]
      by_cases hjq : j < Q.length
      · rw [if_pos hjq, if_pos (by simp; omega), getD_app_l _ _ _ _ hjq]
      · rw [if_neg hjq, if_neg (by simp; omega)]
  · rw [getD_setL (by omega), if_neg (hn _ hq)]
    exact h.off i hi hn

theorem LI.ring {S F N s : Nat} {f : List Int} {L Q : List (List Int)} (h : LI S F N s f L Q) (hN : 2 ≤ N) (hs : 1 ≤ s) (hs2 : s < N) (hF : F + N ≤ S) (sup : List Int) :
    (((L.set F sup).drop F).take N).length = N ∧ (((L.set F sup).drop F).take N).getD 0 [] = sup ∧ ∃ R, ringF (((L.set F sup).drop F).take N) (s : Int) (N - 1) = Q ++ R ∧ ∀ b ∈ R, noEnd b := by
  have hl := h.len
  have h1 : (((L.set F sup).drop F).take N).length = N := by simp; omega
  have hget : ∀ i, i < N → (((L.set F sup).drop F).take N).getD i [] = (L.set F sup).getD (F + i) [] := fun i hi => getD_chunk _ F N i [] hi
  refine ⟨h1, ?_, ?_⟩
  · rw [hget 0 (by omega), getD_setL (by omega), if_pos (by omega)]
  generalize hreg : ((L.set F sup).drop F).take N = reg at *
  have hr : ∀ j, j < N - 1 → (ringF reg (s : Int) (N - 1)).getD j [] = if j < Q.length then Q.getD j [] else pageF f (F + pos N s j) := by
    intro j hj
    have hp := pos_in hN hs (by omega) (show j ≤ N - 2 by omega)
    unfold ringF
    rw [getD_map' _ _ _ 0 _ (by simpa using hj), h1]
    have : (List.range (N - 1)).getD j 0 = j := by rw [List.getD_eq_getElem?_getD, List.getElem?_range hj]; rfl
    rw [this, atF_pos hN hs (by omega) (by omega), Int.toNat_natCast, hget _ hp.2, getD_setL (by omega), if_neg (by omega)]
    exact h.on j hj
  have hrl : (ringF reg (s : Int) (N - 1)).length = N - 1 := ringF_len _ _ _
  generalize ringF reg (s : Int) (N - 1) = ring at *
  have hq := h.q
  have ht : ring.take Q.length = Q := by
    apply List.ext_getElem
    · simp; omega
    intro j j1 j2
    have := hr j (by omega)
    rw [if_pos j2, List.getD_eq_getElem?_getD, List.getElem?_eq_getElem (by omega), List.getD_eq_getElem?_getD, List.getElem?_eq_getElem j2] at this
    rw [List.getElem_take]
    simpa using this
  refine ⟨ring.drop Q.length, ?_, fun b hb => ?_⟩
  · conv => rhs; lhs; rw [← ht]
    exact (List.take_append_drop _ _).symm
  · obtain ⟨j, hj, rfl⟩ := List.mem_iff_getElem.1 hb
    have hj' : j < ring.length - Q.length := by simpa using hj
    have := hr (Q.length + j) (by omega)
    rw [if_neg (by omega), List.getD_eq_getElem?_getD, List.getElem?_eq_getElem (by omega)] at this
    rw [List.getElem_drop]
    have this : ring[Q.length + j] = _ := this
    rw [this]
    exact page_noEnd _ _

def qs (T : List TX) (sh : Bool) (i : Nat) : List (List Int) := if sh = true ∧ i = T.length ∧ 0 < i then (packs T i).dropLast else packs T i
def whole (T : List TX) (sh : Bool) (i : Nat) : Nat := if sh = true ∧ i = T.length ∧ 0 < i then i - 1 else i

theorem qs_split (T : List TX) (sh : Bool) (i : Nat) (hok : ∀ k, k < i → okT (txF T k)) : ∃ R, qs T sh i = packs T (whole T sh i) ++ R ∧ ∀ b ∈ R, noEnd b := by
  unfold qs whole
  split
  · rename_i h
    obtain ⟨k, rfl⟩ : ∃ k, i = k + 1 := ⟨i - 1, by omega⟩
    refine ⟨body (txF T k), ?_, body_noEnd (hok k (by omega))⟩
    rw [packs_succ, Nat.add_sub_cancel]
    unfold packB
    rw [← List.append_assoc, List.dropLast_concat]
  · exact ⟨[], by simp, fun b hb => by simp at hb⟩

theorem scan_lays {S F N s : Nat} {f : List Int} {L : List (List Int)} {T : List TX} {sh : Bool} {K : Nat} (h : LI S F N s f L (qs T sh K)) (hN : 16 ≤ N) (hN2 : N ≤ 64) (hs : 1 ≤ s) (hs2 : s < N) (hF : F + N ≤ S) (hK : K ≤ 1000)
    (hok : ∀ k, k < K → okT (txF T k)) (hd : ∀ b, dsup (supF s 5) = b → b = (((s : Int), (5 : Int)), (0, ()))) :
    ∃ nx, scanF (((L.set F (supF s 5)).drop F).take N) = ((dones T (whole T sh K), (nx, 5 + ((whole T sh K : Nat) : Int))), (0, ())) := by
  obtain ⟨h1, h2, R, h3, h4⟩ := h.ring (by omega) hs hs2 hF (supF s 5)
  generalize ((L.set F (supF s 5)).drop F).take N = reg at *
  obtain ⟨R2, e2, h5⟩ := qs_split T sh K hok
  have hd' := hd _ rfl
  have hw : whole T sh K ≤ K := by unfold whole; split <;> omega
  have hscn := scn_all T (packs T (whole T sh K) ++ (R2 ++ R)) (whole T sh K) (R2 ++ R) rfl (fun i hi => hok i (by omega)) (by omega) (fun b hb => (List.mem_append.1 hb).elim (h5 b) (h4 b)) N 0 (by omega)
  have hring : ringF reg (s : Int) (reg.length - 1) = packs T (whole T sh K) ++ (R2 ++ R) := by rw [h1, h3, e2, List.append_assoc]
  have hlen : (whole T sh K) < N := by
    have e1 := congrArg List.length hring
    rw [ringF_len, h1, List.length_append] at e1
    have : ∀ k, k ≤ (packs T k).length := by
      intro k
      induction k with
      | zero => simp
      | succ k ih => rw [packs_succ, List.length_append]; have := packB_pos (txF T k); omega
    have := this (whole T sh K)
    omega
  have hscn := hscn (by omega)
  unfold scanF
  rw [if_neg (by omega), h2, hd', if_pos rfl, if_neg (by show ¬ ((s : Int) ≥ (reg.length : Int)); omega), if_neg (by show ¬ ((s : Int) = 0); omega)]
  unfold scanR
  rw [hring, h1]
  have e0 : scn (packs T (whole T sh K) ++ (R2 ++ R)) N 0 [] 5 = ((packs T (whole T sh K)).length, (dones T (whole T sh K), 5 + ((whole T sh K : Nat) : Int))) := by
    simpa [packs, dones] using hscn
  dsimp only
  rw [e0]
  exact ⟨_, rfl⟩
end Go.Proofs.Ytjleeabhpfmhaaa
end

section
namespace Go.Proofs.Ytjleeabhpfmhaaa
open Go Go.Proofs.AM

abbrev PLC := Int × (Int × (Int × (Int × ((List TyT) × ((List Int) × Bool)))))

theorem m15_ok (T : List TX) (hT : T.length ≤ 140737488355328) (hs : ∀ t ∈ T, t.2.1.length ≤ 140737488355328 ∧ t.2.2.length ≤ 140737488355328) : Ok (m15 (T, ())) (fun r => r.1 = true → T.length ≤ 12) := by
  unfold m15
  dsimp only
  have e12 : (if (12 : Int) < ((T.length : Nat) : Int) then (12 : Int) else ((T.length : Nat) : Int)) = ((min 12 T.length : Nat) : Int) := by split <;> omega
  simp only [e12]
  have et : List.take (Int.toNat ((min 12 T.length : Nat) : Int) - Int.toNat 0) (List.drop (Int.toNat 0) T) = T.take (min 12 T.length) := by rw [Int.toNat_natCast]; rfl
  simp only [et]
  have hl : (T.take (min 12 T.length)).length = min 12 T.length := by simp
  have hmem : ∀ t ∈ T.take (min 12 T.length), t.2.1.length ≤ 140737488355328 ∧ t.2.2.length ≤ 140737488355328 := fun t ht => hs t (List.mem_of_mem_take ht)
  generalize T.take (min 12 T.length) = P at *
  refine Ok.gd (by omega) (Ok.gd (by omega) (Ok.bind (S := fun _ => True) ?_ (fun r _ => ?_)))
  · refine Ok.loop P.length (fun i x => ∃ y : Int, x = (y, (i : Int))) ⟨0, rfl⟩ ?_
    rintro i x hi ⟨y, rfl⟩
    refine Ok.cond (fun hc => ?_) (fun hc => Ok.inr trivial)
    have hc : (i : Int) < ((P.length : Nat) : Int) := hc
    refine Ok.gd (by simp only; omega) (Ok.gd hc (Ok.inl ⟨by omega, _, Prod.ext rfl ?_⟩))
    exact wsucc (by omega)
  · refine Ok.cond (fun h => Ok.some fun _ => by omega) (fun h => Ok.some (fun h2 => absurd h2 (by decide)))

structure PlOk (S F N s : Nat) (T : List TX) : Prop where
  n1 : 16 ≤ N
  n2 : N ≤ 64
  s1 : 1 ≤ s
  s2 : s < N
  f2 : F ≤ 100
  sf : F + N ≤ S
  s200 : S ≤ 200
  t12 : T.length ≤ 12

theorem m12_ok (p : PLC) (hT : p.2.2.2.2.1.length ≤ 140737488355328) (hs : ∀ t ∈ p.2.2.2.2.1, t.2.1.length ≤ 140737488355328 ∧ t.2.2.length ≤ 140737488355328) :
    Ok (m12 (p, ())) (fun r => r.1 = true → ∃ S F N s : Nat, p = ((S : Int), ((F : Int), ((N : Int), ((s : Int), p.2.2.2.2)))) ∧ PlOk S F N s p.2.2.2.2.1) := by
  obtain ⟨S, F, N, s, T, f, sh⟩ := p
  dsimp only at hT hs
  unfold m12
  dsimp only
  have no : ∀ (Q : Prop), Ok (some (false, ())) (fun r : Bool × Unit => r.1 = true → Q) := fun Q => Ok.some (fun h => absurd h (by decide))
  refine Ok.cond (fun h1 => Ok.cond (fun h2 => Ok.cond (fun h3 => Ok.cond (fun h4 => Ok.cond (fun h5 => Ok.cond (fun h6 => Ok.cond (fun h7 => Ok.cond (fun h8 => ?_) (fun _ => no _)) (fun _ => no _)) (fun _ => no _)) (fun _ => no _)) (fun _ => no _)) (fun _ => no _)) (fun _ => no _)) (fun _ => no _)
  rw [wrap64 (by omega) (by omega)] at h7
  refine Ok.bind (m15_ok T hT hs) fun r hr => Ok.some fun h => ⟨S.toNat, F.toNat, N.toNat, s.toNat, ?_, ⟨by omega, by omega, by omega, by omega, by omega, by omega, by omega, hr h⟩⟩
  rw [Int.toNat_of_nonneg (by omega), Int.toNat_of_nonneg (by omega), Int.toNat_of_nonneg (by omega), Int.toNat_of_nonneg (by omega)]

open Classical in
theorem m13_ok (S F N s : Nat) (T : List TX) (f : List Int) (sh : Bool) (hp : PlOk S F N s T) (hf : f.length ≤ 140737488355328) (hT : ∀ i, i < T.length → Small (txF T i)) :
    Ok (m13 (((S : Int), ((F : Int), ((N : Int), ((s : Int), (T, (f, sh)))))), ())) (fun r => ∃ (K : Nat) (L : List (List Int)), K ≤ T.length ∧ (∀ k, k < K → okT (txF T k)) ∧ LI S F N s f L (qs T sh K) ∧ r = (L.set F (supF s 5), (((whole T sh K : Nat) : Int), ()))) := by
  obtain ⟨n1, n2, s1, s2, f2, sf, s200, t12⟩ := hp
  unfold m13
  dsimp only
  have hZ : List.replicate (Int.toNat 256) (0 : Int) = Zp := rfl
  have hZl : Zp.length = 256 := List.length_replicate
  have hrl : (List.replicate (Int.toNat (S : Int)) ([] : List Int)).length = S := by simp
  simp only [hZ, hZl, hrl]
  refine Ok.gd (by omega) (Ok.gd (by omega) (Ok.gd (by omega) (Ok.bind (S := fun L => L.length = S ∧ ∀ j, j < S → L.getD j [] = pageF f j) ?_ (fun L0 hL0 => ?_))))
  · refine Ok.loop S (fun i x => x.1 = (i : Int) ∧ x.2.length = S ∧ ∀ j, j < i → x.2.getD j [] = pageF f j) ⟨rfl, hrl, fun j hj => by omega⟩ ?_
    rintro i ⟨x1, L⟩ hi ⟨h1, h2, h3⟩
    have h1 : x1 = (i : Int) := h1
    have h2 : L.length = S := h2
    have h3 : ∀ j, j < i → L.getD j [] = pageF f j := h3
    subst h1
    dsimp only
    refine Ok.cond (fun hc => ?_) (fun hc => ?_)
    rotate_left
    · obtain rfl : i = S := by omega
      exact Ok.inr ⟨h2, h3⟩
    have hi' : i < S := by omega
    have next : ∀ (b : List Int), b = pageF f i → (i < S ∧ ((IntKind.wrap .i64 ((i : Int) + 1)) = ((i + 1 : Nat) : Int) ∧ (L.set i b).length = S ∧ ∀ j, j < i + 1 → (L.set i b).getD j [] = pageF f j)) := by
      intro b hb
      refine ⟨hi', wsucc (by omega), by rw [List.length_set]; exact h2, fun j hj => ?_⟩
      rw [getD_setL (by omega)]
      by_cases e : j = i
      · rw [if_pos e, e]; exact hb
      · rw [if_neg e]; exact h3 j (by omega)
    rw [h2, Int.toNat_natCast]
    refine Ok.gd (by decide) (Ok.gd (by omega) (Ok.gd (by omega) (Ok.gd (by omega) (Ok.cond (fun hf0 => ?_) (fun hf0 => ?_)))))
    · have hfp : 0 < f.length := by omega
      have hm : Int.tmod (i : Int) ((f.length : Nat) : Int) = ((i % f.length : Nat) : Int) := rfl
      have hlt := Nat.mod_lt i hfp
      rw [hm, Int.toNat_natCast]
      refine Ok.gd (by omega) (Ok.gd (by omega) (Ok.gd trivial (Ok.ite (fun h => absurd h (by omega)) (fun _ => Ok.gd (by omega) (Ok.gd (by omega) (Ok.gd (by omega) (Ok.gd (by decide) (Ok.inl (next _ ?_)))))))))
      unfold pageF
      rw [if_pos hfp]; rfl
    · refine Ok.inl (next _ ?_)
      unfold pageF
      rw [if_neg (by omega)]
  obtain ⟨hl0, hg0⟩ := hL0
  have hLI0 : LI S F N s f L0 [] := LI.start (by omega) s1 s2 sf hl0 hg0
  have wN : IntKind.wrap .i64 ((N : Int) - 1) = ((N - 1 : Nat) : Int) := by rw [wrap64 (by omega) (by omega)]; omega
  have wT : IntKind.wrap .i64 (((T.length : Nat) : Int) - 1) = ((T.length : Nat) : Int) - 1 := wrap64 (by omega) (by omega)
  simp only [wN, wT]
  refine Ok.bind (S := fun r => ∃ (K : Nat) (L : List (List Int)), r = ((K : Int), L) ∧ K ≤ T.length ∧ (∀ k, k < K → okT (txF T k)) ∧ LI S F N s f L (qs T sh K)) ?_ (fun r hr => ?_)
  · refine Ok.loop T.length (fun i x => ∃ L, x = (5 + (i : Int), ((((packs T i).length : Nat) : Int), ((i : Int), ((i : Int), L)))) ∧ (∀ k, k < i → okT (txF T k)) ∧ (packs T i).length ≤ N - 1 ∧ LI S F N s f L (qs T sh i)) ⟨L0, rfl, fun k hk => by omega, by simp [packs], by simpa [qs, packs] using hLI0⟩ ?_
    rintro i x hi ⟨L, rfl, hok, hat, hLI⟩
    dsimp only
    refine Ok.cond (fun hc => ?_) (fun hc => Ok.inr ⟨i, L, rfl, hi, hok, hLI⟩)
    have hi' : i < T.length := by omega
    have hq : qs T sh i = packs T i := by unfold qs; rw [if_neg (by omega)]
    rw [hq] at hLI
    refine Ok.gd (by omega) (Ok.gd (by omega) ?_)
    rw [Int.toNat_natCast]
    have e27 : m27 ((5 + (i : Int), (List.getD T i ((0 : Int), (([] : List (Int × (List Int))), ([] : List Int)))).2), ()) = _ := m27_ok (txF T i) (hT i hi')
    rw [e27]
    simp only [Option.bind_some]
    by_cases hokt : okT (txF T i)
    rotate_left
    · rw [if_neg hokt]
      exact Ok.ncond (fun _ => Ok.inr ⟨i, L, rfl, hi, hok, by rw [hq]; exact hLI⟩) (fun h => absurd h (by decide))
    rw [if_pos hokt]
    refine Ok.ncond (fun h => (h rfl).elim) (fun _ => ?_)
    dsimp only
    have hsz : (packB (txF T i)).length ≤ 63 := by
      have h1 := body_len (txF T i)
      have h2 := hokt.2.2.1
      simp only [packB, List.length_append, List.length_cons, List.length_nil]; omega
    have hpos := packB_pos (txF T i)
    have hps := packs_succ T i
    have hbd : packB (txF T i) = body (txF T i) ++ [encB (cx (txF T i))] := rfl
    generalize packB (txF T i) = pk at *
    have wa : IntKind.wrap .i64 ((((packs T i).length : Nat) : Int) + ((pk.length : Nat) : Int)) = (((packs T i).length + pk.length : Nat) : Int) := by rw [wrap64 (by omega) (by omega)]; push_cast; rfl
    simp only [wa]
    refine Ok.cond (fun _ => Ok.inr ⟨i, L, rfl, hi, hok, by rw [hq]; exact hLI⟩) (fun hroom => ?_)
    have hroom : (packs T i).length + pk.length ≤ N - 1 := by omega
    have wk : IntKind.wrap .i64 (((pk.length : Nat) : Int) - 1) = ((pk.length - 1 : Nat) : Int) := by rw [wrap64 (by omega) (by omega)]; omega
    simp only [wk]
    generalize hP : packs T i = P at *
    -- how many of its blocks are laid
    obtain ⟨last, hlast⟩ : ∃ last : Bool, last = (sh && decide (i + 1 = T.length)) := ⟨_, rfl⟩
    refine Ok.bind (S := fun L' => LI S F N s f L' (P ++ pk.take (if last = true then pk.length - 1 else pk.length))) ?_ (fun L' hL' => ?_)
    · refine Ok.loop pk.length (fun k y => ∃ L', y = ((k : Int), L') ∧ LI S F N s f L' (P ++ pk.take (if last = true then min k (pk.length - 1) else k))) ⟨L, rfl, by simpa using hLI⟩ ?_
      rintro k y hk ⟨L', rfl, hI⟩
      dsimp only
      refine Ok.cond (fun hc2 => ?_) (fun hc2 => ?_)
      rotate_left
      · obtain rfl : k = pk.length := by omega
        refine Ok.inr ?_
        cases last
        · simpa using hI
        · simpa using hI
      have hk' : k < pk.length := by omega
      refine Ok.gd (by omega) (Ok.gd (by omega) ?_)
      have lay : ¬ (last = true ∧ k = pk.length - 1) → Ok (Option.bind (m11 ((N : Int), ((s : Int), ((IntKind.wrap .i64 (((P.length : Nat) : Int) + (k : Int))), ())))) fun (y5 : (Int × Unit)) =>
          gd ((0 : Int) ≤ (IntKind.wrap .i64 ((F : Int) + y5.1))) (gd ((IntKind.wrap .i64 ((F : Int) + y5.1)) < (((List.length L') : Nat) : Int)) (gd ((Int.toNat (IntKind.wrap .i64 ((F : Int) + y5.1))) < (List.length L')) (some (Sum.inl ((IntKind.wrap .i64 ((k : Int) + (1 : Int))), (List.set L' (Int.toNat (IntKind.wrap .i64 ((F : Int) + y5.1))) (List.getD pk (Int.toNat (k : Int)) ([] : List Int))))))))) (fun st : ((Int × (List (List Int))) ⊕ (List (List Int))) => st.elim (fun y => k < pk.length ∧ ∃ L', y = (((k + 1 : Nat) : Int), L') ∧ LI S F N s f L' (P ++ pk.take (if last = true then min (k + 1) (pk.length - 1) else k + 1))) (fun L' => LI S F N s f L' (P ++ pk.take (if last = true then pk.length - 1 else pk.length)))) := by
        intro hnl
        have hmk : (if last = true then min k (pk.length - 1) else k) = k := by
          split
          · exact Nat.min_eq_left (by omega)
          · rfl
        have hmk1 : (if last = true then min (k + 1) (pk.length - 1) else k + 1) = k + 1 := by
          split
          · rename_i hl
            have : k ≠ pk.length - 1 := fun e => hnl ⟨hl, e⟩
            exact Nat.min_eq_left (by omega)
          · rfl
        rw [hmk] at hI
        have w5 : IntKind.wrap .i64 (((P.length : Nat) : Int) + (k : Int)) = ((P.length + k : Nat) : Int) := by rw [wrap64 (by omega) (by omega)]; push_cast; rfl
        have hpi := pos_in (n := N) (s := s) (j := P.length + k) (by omega) s1 (by omega) (by omega)
        rw [w5, m11_ok N (by omega), atF_pos (by omega) s1 (by omega) (by omega)]
        simp only [Option.bind_some]
        have w6 : IntKind.wrap .i64 ((F : Int) + ((pos N s (P.length + k) : Nat) : Int)) = ((F + pos N s (P.length + k) : Nat) : Int) := by rw [wrap64 (by omega) (by omega)]; push_cast; rfl
        have hll := hI.len
        rw [w6, Int.toNat_natCast, Int.toNat_natCast, hll]
        refine Ok.gd (by omega) (Ok.gd (by omega) (Ok.gd (by omega) (Ok.inl ⟨hk', _, Prod.ext (wsucc (by omega)) rfl, ?_⟩)))
        have hql : (P ++ pk.take k).length = P.length + k := by simp; omega
        have := hI.step (by omega) s1 s2 sf (by omega) (pk.getD k [])
        rw [hql] at this
        rw [hmk1, take_snoc pk k hk' [], ← List.append_assoc]
        exact this
      refine Ok.condb (fun hsh => ?_) (fun hsh => lay (by rw [hlast, hsh]; simp))
      refine Ok.cond (fun hl2 => ?_) (fun hl2 => lay (by rw [hlast, hsh]; simp; omega))
      refine Ok.cond (fun hl3 => ?_) (fun hl3 => lay (by omega))
      have hlt : last = true := by rw [hlast, hsh]; simp; omega
      refine Ok.inl ⟨hk', L', Prod.ext (wsucc (by omega)) rfl, ?_⟩
      rw [if_pos hlt] at hI ⊢
      rw [show min (k + 1) (pk.length - 1) = min k (pk.length - 1) by omega]
      exact hI
    · refine Ok.inl ⟨hi', L', ?_, ?_, ?_, ?_⟩
      · rw [hps, List.length_append]
        refine Prod.ext ?_ (Prod.ext rfl (Prod.ext (wsucc (by omega)) (Prod.ext (wsucc (by omega)) rfl)))
        show IntKind.wrap .i64 (5 + (i : Int) + 1) = 5 + ((i + 1 : Nat) : Int)
        rw [wrap64 (by omega) (by omega)]; omega
      · intro k hk
        by_cases e : k = i
        · subst e; exact hokt
        · exact hok k (by omega)
      · rw [hps, List.length_append]; exact hroom
      · unfold qs
        rw [hps]
        cases hb : last with
        | true =>
          rw [hb] at hL'
          rw [hb] at hlast
          have hlast : sh = true ∧ i + 1 = T.length := by simpa using hlast.symm
          rw [if_pos ⟨hlast.1, hlast.2, by omega⟩]
          rw [if_pos rfl] at hL'
          have : (P ++ pk).dropLast = P ++ pk.take (pk.length - 1) := by
            rw [hbd, ← List.append_assoc, List.dropLast_concat]
            congr 1
            simp
          rw [this]; exact hL'
        | false =>
          rw [hb] at hL'
          rw [hb] at hlast
          rw [if_neg (fun h => by rw [h.1, h.2.1] at hlast; simp at hlast)]
          rw [if_neg (by decide), List.take_length] at hL'
          exact hL'
  obtain ⟨K, L, rfl, hK, hok, hLI⟩ := hr
  dsimp only
  have hll := hLI.len
  have hS : okS (s : Int) 5 := ⟨by omega, by omega, by decide, by decide⟩
  have e28 : m28 (((s : Int), (5 : Int)), ()) = some (supF s 5, (0, ())) := by
    rw [m28_ok, if_pos hS, Int.toNat_natCast]; rfl
  rw [e28]
  simp only [Option.bind_some, hll, Int.toNat_natCast]
  have fin : ∀ W : Int, W = ((whole T sh K : Nat) : Int) → Ok (gd ((0 : Int) ≤ (F : Int)) (gd ((F : Int) < ((S : Nat) : Int)) (gd (F < S) (some ((List.set L F (supF s 5)), (W, ())))))) (fun r => ∃ (K : Nat) (L : List (List Int)), K ≤ T.length ∧ (∀ k, k < K → okT (txF T k)) ∧ LI S F N s f L (qs T sh K) ∧ r = (L.set F (supF s 5), (((whole T sh K : Nat) : Int), ()))) := fun W hW =>
    Ok.gd (by omega) (Ok.gd (by omega) (Ok.gd (by omega) (Ok.some ⟨K, L, hK, hok, hLI, by rw [hW]⟩)))
  refine Ok.condb (fun hsh => Ok.cond (fun h1 => Ok.cond (fun h2 => fin _ ?_) (fun h2 => fin _ ?_)) (fun h1 => fin _ ?_)) (fun hsh => fin _ ?_)
  · unfold whole
    rw [if_pos ⟨hsh, by omega, by omega⟩, wrap64 (by omega) (by omega)]; omega
  · unfold whole
    rw [if_neg (by omega)]
  · unfold whole
    rw [if_neg (by omega)]
  · unfold whole
    rw [if_neg (fun h => by rw [hsh] at h; simp at h)]
end Go.Proofs.Ytjleeabhpfmhaaa
end

section
namespace Go.Proofs.Ytjleeabhpfmhaaa
open Go Go.Proofs.AM

theorem pack_256 {t : TX} (ht : okT t) : ∀ b ∈ packB t, b.length = 256 := by
  intro b hb
  unfold packB body rblks dgrps dgrp at hb
  rcases List.mem_append.1 hb with hb | hb
  · rcases List.mem_append.1 hb with hb | hb
    · obtain ⟨i, hi, rfl⟩ := List.mem_map.1 hb
      exact encB_len (plain_rx ht (List.mem_range.1 hi))
    · obtain ⟨i, hi, hb⟩ := List.mem_flatMap.1 hb
      rcases List.mem_cons.1 hb with rfl | hb
      · exact encB_len (plain_dx ht (List.mem_range.1 hi))
      · obtain ⟨p, hp, rfl⟩ := List.mem_map.1 hb
        have hp := List.mem_of_mem_drop (List.mem_of_mem_take hp)
        obtain ⟨j, hj, rfl⟩ := List.mem_iff_getElem.1 hp
        have := ht.2.2.2.2.1 j (by unfold tot; omega) hj
        rw [List.getD_eq_getElem?_getD, List.getElem?_eq_getElem hj] at this
        exact esc_len.trans this
  · rw [List.mem_singleton] at hb
    subst hb
    exact encB_len (plain_cx ht)

theorem page_ok {f : List Int} (hf : Bytes f) (i : Nat) : Bytes (pageF f i) ∧ (pageF f i).length = 256 := by
  unfold pageF
  split
  · rename_i h
    refine ⟨fun x hx => ?_, by rw [List.length_set]; exact List.length_replicate⟩
    rcases List.mem_or_eq_of_mem_set hx with h1 | h1
    · exact Bytes.zeros _ x h1
    · rw [h1]; exact hf _ (getD_mem (Nat.mod_lt _ h))
  · exact ⟨Bytes.zeros _, List.length_replicate⟩

theorem qs_mem {T : List TX} {sh : Bool} {K : Nat} : ∀ b ∈ qs T sh K, ∃ k, k < K ∧ b ∈ packB (txF T k) := by
  intro b hb
  have hb : b ∈ packs T K := by
    unfold qs at hb
    split at hb
    · exact (List.dropLast_sublist _).subset hb
    · exact hb
  unfold packs at hb
  obtain ⟨i, hi, hb⟩ := List.mem_flatMap.1 hb
  exact ⟨i, List.mem_range.1 hi, hb⟩

theorem LI.all {S F N s : Nat} {f : List Int} {L Q : List (List Int)} (h : LI S F N s f L Q) {P : List Int → Prop} (hQ : ∀ b ∈ Q, P b) (hp : ∀ i, P (pageF f i)) : ∀ b ∈ L, P b := by
  intro b hb
  obtain ⟨i, hi, rfl⟩ := List.mem_iff_getElem.1 hb
  have hl := h.len
  have e : L[i] = L.getD i [] := by rw [List.getD_eq_getElem?_getD, List.getElem?_eq_getElem hi]; rfl
  rw [e]
  by_cases hx : ∃ j, j < N - 1 ∧ i = F + pos N s j
  · obtain ⟨j, hj, rfl⟩ := hx
    rw [h.on j hj]
    split
    · rename_i hjq; exact hQ _ (getD_mem hjq)
    · exact hp _
  · rw [h.off i (by omega) (fun j hj e => hx ⟨j, hj, e⟩)]
    exact hp _

theorem supF_ok (s q : Nat) : Bytes (supF s q) ∧ (supF s q).length = 256 := ⟨sealed_bytes (sup_bytes s q), by rw [supF, sealed_len, sup_len]⟩

theorem image_ok {S F N s : Nat} {f : List Int} {L : List (List Int)} {T : List TX} {sh : Bool} {K : Nat} (h : LI S F N s f L (qs T sh K)) (hf : Bytes f) (hok : ∀ k, k < K → okT (txF T k)) (hb : ∀ k, k < K → ∀ p ∈ (txF T k).2.1, Bytes p.2) :
    ∀ b ∈ L.set F (supF s 5), Bytes b ∧ b.length = 256 := by
  intro b hm
  rcases List.mem_or_eq_of_mem_set hm with h1 | h1
  · refine h.all (P := fun b => Bytes b ∧ b.length = 256) (fun b hq => ?_) (page_ok hf) b h1
    obtain ⟨k, hk, hq⟩ := qs_mem b hq
    exact ⟨pack_bytes (hb k hk) b hq, pack_256 (hok k hk) b hq⟩
  · rw [h1]; exact supF_ok s 5

theorem m4_ok (p : PLC) (hf : p.2.2.2.2.2.1.length ≤ 140737488355328) (hfb : Bytes p.2.2.2.2.2.1) (hT : p.2.2.2.2.1.length ≤ 140737488355328) (hs : ∀ t ∈ p.2.2.2.2.1, t.2.1.length ≤ 140737488355328 ∧ t.2.2.length ≤ 140737488355328)
    (hd : ∀ t ∈ p.2.2.2.2.1, ∀ w ∈ t.2.1, Bytes w.2 ∧ w.2.length ≤ 140737488355328) : m4 (p, ()) = some (true, ()) := by
  apply ok_eq
  unfold m4
  rw [m6_ok]
  simp only [Option.bind_some]
  refine Ok.condb (fun h => absurd h (by decide)) (fun _ => Ok.bind (m12_ok p hT hs) fun r hr => ?_)
  refine Ok.condb (fun _ => Ok.some rfl) (fun h => ?_)
  obtain ⟨S, F, N, s, hp, hpl⟩ := hr (by simpa using h)
  obtain ⟨p1, p2, p3, p4, T, f, sh⟩ := p
  simp only [Prod.mk.injEq] at hp
  obtain ⟨rfl, rfl, rfl, rfl, _⟩ := hp
  dsimp only at *
  have hsm : ∀ i, i < T.length → Small (txF T i) := fun i hi => by
    have hm : T.getD i (0, ([], [])) ∈ T := getD_mem hi
    exact ⟨(hs _ hm).1, (hs _ hm).2, fun q hq => hd _ hm q hq⟩
  refine Ok.bind (m13_ok S F N s T f sh hpl hf hsm) fun r hr => ?_
  obtain ⟨K, L, hK, hok, hLI, rfl⟩ := hr
  obtain ⟨n1, n2, s1, s2, f2, sf, s200, t12⟩ := hpl
  have hll := hLI.len
  have wF : IntKind.wrap .i64 ((F : Int) + (N : Int)) = ((F + N : Nat) : Int) := by rw [wrap64 (by omega) (by omega)]; push_cast; rfl
  have himg := image_ok hLI hfb hok (fun k hk q hq => ((hsm k (by omega)).d q hq).1)
  have hll2 : (L.set F (supF s 5)).length = S := by rw [List.length_set]; exact hll
  dsimp only
  rw [wF, hll2]
  refine Ok.gd (by omega) (Ok.gd (by omega) (Ok.gd (by omega) ?_))
  rw [Int.toNat_natCast, Int.toNat_natCast, Nat.add_sub_cancel_left]
  have hreg : ∀ b ∈ ((L.set F (supF s 5)).drop F).take N, Bytes b ∧ b.length ≤ 140737488355328 := fun b hb => by
    have := himg b (List.mem_of_mem_drop (List.mem_of_mem_take hb))
    exact ⟨this.1, by omega⟩
  have hrl : (((L.set F (supF s 5)).drop F).take N).length ≤ 140737488355328 := by
    rw [List.length_take]; omega
  have hdsup : dsup (supF s 5) = (((s : Int), (5 : Int)), (0, ())) := dsup_supF s 5 ⟨by omega, by omega, by decide, by decide⟩
  obtain ⟨nx, hscan⟩ := scan_lays hLI n1 n2 s1 s2 sf (by omega) hok (fun b hb => by rw [← hb, hdsup])
  refine Ok.bind (m7_ok _ hrl hreg) fun r hr => ?_
  obtain ⟨rfl, _, hokr⟩ := hr
  rw [hscan] at hokr ⊢
  have hwle : whole T sh K ≤ K := by unfold whole; split <;> omega
  generalize whole T sh K = W at *
  have hdl := dones_len T W
  dsimp only at hokr ⊢
  have w5 : IntKind.wrap .i64 (((W : Nat) : Int) + 5) = 5 + (W : Int) := by rw [wrap64 (by omega) (by omega)]; omega
  rw [hdl, w5]
  refine Ok.ncond (fun h => (h rfl).elim) (fun _ => Ok.ncond (fun h => (h rfl).elim) (fun _ => Ok.ncond (fun h => (h rfl).elim) (fun _ => ?_)))
  refine Ok.bind (S := fun r => r = .inl ()) ?_ (fun r hr => by subst hr; exact Ok.some rfl)
  refine Ok.loop W (fun i x => x = (i : Int)) rfl ?_
  rintro i x hi rfl
  refine Ok.cond (fun hc => ?_) (fun hc => Ok.inr rfl)
  have hi' : i < W := by omega
  refine Ok.gd (by omega) (Ok.gd (by omega) (Ok.gd (by omega) (Ok.gd (by omega) ?_)))
  rw [Int.toNat_natCast]
  have hg : (dones T W).getD i ((0 : Int), (([] : List (Int × (List Int))), ([] : List Int))) = txF T i := by
    unfold dones
    rw [getD_map' _ _ _ 0 _ (by simpa using hi')]
    congr 1
    rw [List.getD_eq_getElem?_getD, List.getElem?_range hi']; rfl
  have w6 : IntKind.wrap .i64 ((i : Int) + 5) = 5 + (i : Int) := by rw [wrap64 (by omega) (by omega)]; omega
  rw [hg, w6]
  have hm := okT_facts (hok i (by omega))
  have e14 : m14 (txF T i, ((5 + (i : Int), (List.getD T i ((0 : Int), (([] : List (Int × (List Int))), ([] : List Int)))).2), ())) = some (true, ()) := m14_self (txF T i) (by omega) (by omega)
  rw [e14]
  simp only [Option.bind_some]
  exact Ok.condb (fun h => absurd h (by decide)) (fun _ => Ok.inl ⟨hi', wsucc (by omega)⟩)

theorem byte_wf (y : Int) (hy : (Lit.int .u8 y).wf = true) : 0 ≤ y ∧ y < 256 := by
  simp only [Lit.wf, IntKind.min, IntKind.max, IntKind.signed, IntKind.bits, Bool.and_eq_true, decide_eq_true_eq, if_true, Bool.false_eq_true, if_false] at hy
  omega

abbrev kW2 : K := .pair (.int .i64) (.sl (.int .u8))
abbrev kT2 : K := .pair (.int .i64) (.pair (.sl kW2) (.sl (.int .i64)))

theorem kT2_ok (t : TX) (hw : kT2.wf t) (h : kT2.sz t) : (t.2.1.length ≤ 140737488355328 ∧ t.2.2.length ≤ 140737488355328) ∧ ∀ w ∈ t.2.1, Bytes w.2 ∧ w.2.length ≤ 140737488355328 := by
  have h1 : List.length t.2.1 * kW2.wd ≤ 140737488351232 ∧ ∀ w ∈ t.2.1, kW2.sz w := h.2.1
  have h2 : List.length t.2.2 * (K.int .i64).wd ≤ 140737488351232 := h.2.2.1
  have w1 : kW2.wd = 32 := rfl
  have w2 : (K.int .i64).wd = 8 := rfl
  rw [w1] at h1
  rw [w2] at h2
  have hwf : ∀ w ∈ t.2.1, kW2.wf w := hw.2.1.2
  refine ⟨⟨by have := h1.1; omega, by omega⟩, fun w hm => ⟨fun y hy => ?_, ?_⟩⟩
  · have h3 : ∀ y ∈ w.2, (Lit.int .u8 y).wf = true := (hwf w hm).2.2
    exact byte_wf y (h3 y hy)
  · have h3 : List.length w.2 * 1 ≤ 140737488351232 := (h1.2 w hm).2.1
    omega

theorem ReplayFinds_pure : ∀ x : AM.PDen [(true, (.pair (.int .i64) (.pair (.int .i64) (.pair (.int .i64) (.pair (.int .i64) (.pair (.sl (.pair (.int .i64) (.pair (.sl (.pair (.int .i64) (.sl (.int .u8)))) (.sl (.int .i64))))) (.pair (.sl (.int .u8)) .bool)))))))], AM.PWf _ x → AM.PSz _ x → m4 x = some (true, ()) := by
  rintro ⟨p, ⟨⟩⟩ hw hz
  have hw : (K.pair (.int .i64) (.pair (.int .i64) (.pair (.int .i64) (.pair (.int .i64) (.pair (.sl kT2) (.pair (.sl (.int .u8)) .bool)))))).wf p := hw.1
  have hz : (K.pair (.int .i64) (.pair (.int .i64) (.pair (.int .i64) (.pair (.int .i64) (.pair (.sl kT2) (.pair (.sl (.int .u8)) .bool)))))).sz p := hz.1
  obtain ⟨p1, p2, p3, p4, T, f, sh⟩ := p
  have hT : List.length T * kT2.wd ≤ 140737488351232 ∧ ∀ t ∈ (show List TX from T), kT2.sz t := hz.2.2.2.2.1
  have hTw : ∀ t ∈ (show List TX from T), kT2.wf t := hw.2.2.2.2.1.2
  have hf : List.length f * 1 ≤ 140737488351232 := hz.2.2.2.2.2.1.1
  have hfw : ∀ y ∈ (show List Int from f), (Lit.int .u8 y).wf = true := hw.2.2.2.2.2.1.2
  have wT : kT2.wd = 56 := rfl
  rw [wT] at hT
  refine m4_ok (p1, (p2, (p3, (p4, (T, (f, sh)))))) (by show List.length f ≤ _; omega) (fun y hy => byte_wf y (hfw y hy)) (by show List.length T ≤ _; have := hT.1; omega) (fun t ht => (kT2_ok t (hTw t ht) (hT.2 t ht)).1) (fun t ht => (kT2_ok t (hTw t ht) (hT.2 t ht)).2)
end Go.Proofs.Ytjleeabhpfmhaaa
end
