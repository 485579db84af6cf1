/- What the functions of this claim compute, each shown by the kernel, and what that comes to, with no program in sight. No condition. -/
import Derived.Test.YtecadglgkhfaaaaCa
import Derived.Test.YtecadglgkhfaaaaAmd
set_option maxRecDepth 2000
set_option linter.unusedVariables false
set_option linter.unusedSimpArgs false
section
namespace Go.Proofs.Ytecadglgkhfaaaa
open Go Go.Proofs.AM

def fgc (c : Int → Bool) (g : Log) : Log := (g.1, g.2.map fun p => if c p = true then -1 else p)

theorem ith_mid (A B : List Log) (g : Log) : ith (A := Int) (ki := .int .i64) (A ++ g :: B) A.length = g.2 := by
  unfold ith; simp
theorem setIn_mid (A B : List Log) (g : Log) (ys : List Int) : setIn (A := Int) (ki := .int .i64) (A ++ g :: B) A.length ys = A ++ (g.1, ys) :: B := by
  unfold setIn
  induction A with
  | nil => rfl
  | cons a A ih => rw [List.length_cons, List.cons_append, List.modify_succ_cons, ih]; rfl
theorem hth_mid (A B : List Log) (g : Log) : hth (kh := .int .i64) (ki := .int .i64) (A ++ g :: B) A.length = g.1 := by
  unfold hth; simp

theorem getD_mid (A B : List Int) (x : Int) : (A ++ x :: B).getD A.length 0 = x := by simp
theorem set_mid (A B : List Int) (x y : Int) : (A ++ x :: B).set A.length y = A ++ y :: B := by simp

theorem inner_gen (c : Int → Bool) (A B : List Log) (g : Log) (f : Int × List Log → Option ((Int × List Log) ⊕ List Log))
    (hin : ∀ j row, j < g.2.length → row.length = g.2.length → f ((j : Int), A ++ (g.1, row) :: B) = some (.inl ((j : Int) + 1, A ++ (g.1, if c (row.getD j 0) = true then row.set j (-1) else row) :: B)))
    (hend : ∀ row, row.length = g.2.length → f ((g.2.length : Int), A ++ (g.1, row) :: B) = some (.inr (A ++ (g.1, row) :: B))) :
    loopM f (0, A ++ g :: B) = some (A ++ fgc c g :: B) := by
  refine loop_idx' g.2.length (fun j => ((j : Int), A ++ (g.1, (g.2.take j).map (fun p => if c p = true then -1 else p) ++ g.2.drop j) :: B)) (by simp) (fun j hj => ?_) ?_
  · have hl : ((g.2.take j).map (fun p => if c p = true then -1 else p) ++ g.2.drop j).length = g.2.length := by simp; omega
    rw [hin j _ hj hl]
    have e1 : g.2.drop j = g.2.getD j 0 :: g.2.drop (j + 1) := by
      rw [List.getD_eq_getElem?_getD, List.getElem?_eq_getElem hj, Option.getD_some, List.drop_eq_getElem_cons hj]
    have e2 : ((g.2.take j).map (fun p => if c p = true then -1 else p)).length = j := by simp; omega
    have e3 : (g.2.take (j + 1)).map (fun p => if c p = true then -1 else p) = (g.2.take j).map (fun p => if c p = true then -1 else p) ++ [if c (g.2.getD j 0) = true then -1 else g.2.getD j 0] := by
      rw [take_snoc g.2 j hj 0, List.map_append]; rfl
    rw [e1, e3]
    obtain ⟨T, hT⟩ : ∃ T, T = (g.2.take j).map (fun p => if c p = true then -1 else p) := ⟨_, rfl⟩
    rw [← hT] at e2 ⊢
    subst e2
    rw [getD_mid, set_mid]
    by_cases h : c (g.2.getD T.length 0) = true
    · rw [if_pos h, if_pos h]; simp
    · rw [if_neg h, if_neg h]; simp
  · rw [hend _ (by simp)]
    simp [fgc]

theorem outer_gen (c : Int → Bool) (G : List Log) (F : Int × List Log → Option ((Int × List Log) ⊕ List Log))
    (hout : ∀ (A : List Log) g B, A.length + 1 + B.length = G.length → g ∈ G → F ((A.length : Int), A ++ g :: B) = some (.inl ((A.length : Int) + 1, A ++ fgc c g :: B)))
    (hend : ∀ X, F ((G.length : Int), X) = some (.inr X)) : loopM F (0, G) = some (G.map (fgc c)) := by
  refine loop_idx' G.length (fun i => ((i : Int), (G.take i).map (fgc c) ++ G.drop i)) (by simp) (fun i hi => ?_) ?_
  · have e1 : G.drop i = G[i] :: G.drop (i + 1) := List.drop_eq_getElem_cons hi
    have e2 : ((G.take i).map (fgc c)).length = i := by simp; omega
    have e3 : (G.take (i + 1)).map (fgc c) = (G.take i).map (fgc c) ++ [fgc c G[i]] := by
      rw [List.take_add_one, List.getElem?_eq_getElem hi, List.map_append]; rfl
    rw [e1]
    have := hout ((G.take i).map (fgc c)) G[i] (G.drop (i + 1)) (by rw [e2]; simp; omega) (List.getElem_mem hi)
    rw [e2] at this
    rw [this, e3]
    simp
  · rw [hend]
    simp

def isn (n : Int) (p : Int) : Bool := decide (p = n)

theorem m18f_eq (n : Int) (hn : 0 ≤ n) (G : List Log) (hG : G.length ≤ 100) (hg : ∀ g ∈ G, g.2.length ≤ 32) : m18f n G = some (G.map (fgc (isn n))) := by
  unfold m18f
  refine outer_gen (isn n) G _ (fun A g B hl hm => ?_) (fun X => ?_)
  rotate_left
  · simp only; rw [decide_eq_false (by omega)]; rfl
  have hgl := hg g hm
  simp only [Int.toNat_natCast]
  rw [decide_eq_true (show (A.length : Int) < (G.length : Int) by omega)]
  simp only [cond_true]
  rw [gd_pos (by omega), gd_pos (by omega), gd_pos (by simp)]
  rw [inner_gen (isn n) A B g _ (fun j row hj hr => ?_) (fun row hr => ?_)]
  · simp only [Option.bind_some]; rw [wrap64 (by omega) (by omega)]
  · simp only [Int.toNat_natCast, ith_mid, setIn_mid]
    rw [decide_eq_true (show (j : Int) < (g.2.length : Int) by omega)]
    simp only [cond_true]
    rw [gd_pos (by omega), gd_pos (by omega), gd_pos (by omega), wrap64 (by omega) (by omega)]
    unfold isn
    simp only [Bool.cond_eq_ite, decide_eq_true_eq]
    have aux : ∀ v : Int, (if v ≥ 0 then (if v = n then gd ((0 : Int) ≤ (j : Int)) (gd ((j : Int) < (row.length : Int)) (gd (j < row.length) (some (Sum.inl ((j : Int) + 1, A ++ (g.1, row.set j (-1)) :: B))))) else some (Sum.inl ((j : Int) + 1, A ++ (g.1, row) :: B))) else some (Sum.inl ((j : Int) + 1, A ++ (g.1, row) :: B))) = (some (Sum.inl ((j : Int) + 1, A ++ (g.1, if v = n then row.set j (-1) else row) :: B)) : Option ((Int × List Log) ⊕ List Log)) := by
      intro v
      by_cases h1 : v = n
      · rw [if_pos (by omega), if_pos h1, if_pos h1, gd_pos (by omega), gd_pos (by omega), gd_pos (by omega)]
      · by_cases h2 : v ≥ 0
        · rw [if_pos h2, if_neg h1, if_neg h1]
        · rw [if_neg h2, if_neg h1]
    exact aux (row.getD j 0)
  · simp only [Int.toNat_natCast, ith_mid]
    rw [decide_eq_false (by omega)]; rfl

theorem m19f_eq (n : Int) (hn : 0 ≤ n) (hn2 : n ≤ 100000) (G : List Log) (hG : G.length ≤ 100) (hg : ∀ g ∈ G, g.2.length ≤ 32) : m19f n G = some (G.map (fgc (isn n))) := by
  unfold m19f
  refine outer_gen (isn n) G _ (fun A g B hl hm => ?_) (fun X => ?_)
  rotate_left
  · simp only; rw [decide_eq_false (by omega)]; rfl
  have hgl := hg g hm
  simp only [Int.toNat_natCast]
  rw [decide_eq_true (show (A.length : Int) < (G.length : Int) by omega)]
  simp only [cond_true]
  rw [inner_gen (isn n) A B g _ (fun j row hj hr => ?_) (fun row hr => ?_)]
  · simp only [Option.bind_some]; rw [wrap64 (by omega) (by omega)]
  · have hAl : A.length < (A ++ (g.1, row) :: B).length := by simp
    simp only [Int.toNat_natCast, ith_mid, setIn_mid]
    rw [gd_pos (by omega), gd_pos (by omega), gd_pos hAl, decide_eq_true (show (j : Int) < (row.length : Int) by omega)]
    simp only [cond_true]
    rw [gd_pos (by omega), gd_pos (by omega), gd_pos hAl, gd_pos (by omega), gd_pos (by omega), gd_pos (by omega), wrap64 (n := (j : Int) + 1) (by omega) (by omega), wrap64 (n := n + 1) (by omega) (by omega)]
    unfold isn
    simp only [Bool.cond_eq_ite, decide_eq_true_eq]
    have aux : ∀ v : Int, (if v ≥ n then (if v < n + 1 then gd ((0 : Int) ≤ (A.length : Int)) (gd ((A.length : Int) < (G.length : Int)) (gd (A.length < (A ++ (g.1, row) :: B).length) (gd ((0 : Int) ≤ (j : Int)) (gd ((j : Int) < (row.length : Int)) (gd (j < row.length) (some (Sum.inl ((j : Int) + 1, A ++ (g.1, row.set j (-1)) :: B)))))))) else some (Sum.inl ((j : Int) + 1, A ++ (g.1, row) :: B))) else some (Sum.inl ((j : Int) + 1, A ++ (g.1, row) :: B))) = (some (Sum.inl ((j : Int) + 1, A ++ (g.1, if v = n then row.set j (-1) else row) :: B)) : Option ((Int × List Log) ⊕ List Log)) := by
      intro v
      by_cases h1 : v = n
      · rw [if_pos (by omega), if_pos (by omega), if_pos h1, gd_pos (by omega), gd_pos (by omega), gd_pos hAl, gd_pos (by omega), gd_pos (by omega), gd_pos (by omega)]
      · by_cases h2 : v ≥ n
        · rw [if_pos h2, if_neg (by omega), if_neg h1]
        · rw [if_neg h2, if_neg h1]
    exact aux (row.getD j 0)
  · simp only [Int.toNat_natCast, ith_mid]
    rw [gd_pos (by omega), gd_pos (by omega), gd_pos (by simp), decide_eq_false (by omega)]; rfl

theorem room_fgc (P : Int) (c : Int → Bool) (G : List Log) : room P (G.map (fgc c)) = room P G := by
  unfold room
  have : (((G.map (fgc c)).getD ((G.map (fgc c)).length - 1) (0, [])).2.length) = (G.getD (G.length - 1) (0, [])).2.length := by
    simp only [List.length_map, List.getD_eq_getElem?_getD, List.getElem?_map]
    cases G[G.length - 1]? <;> simp [fgc]
  rw [this, List.length_map]

def addLast (G : List Log) (v : Int) : List Log := setIn (A := Int) (ki := .int .i64) G (G.length - 1) (ith (A := Int) (ki := .int .i64) G (G.length - 1) ++ [v])

theorem addLast_snoc (A : List Log) (g : Log) (v : Int) : addLast (A ++ [g]) v = A ++ [(g.1, g.2 ++ [v])] := by
  unfold addLast
  have e : (A ++ [g]).length - 1 = A.length := by simp
  rw [e, ith_mid, setIn_mid]

section
open Classical
variable (P L K : Int) (D : List Int) (H : List Bool) (S : Int × (Int × Int)) (G : List Log)

noncomputable def openS (s : Int × Int) (ph : Int) : Tab × (Int × Unit) :=
  if ¬ Good P L K D H S G then (zeroT, (50, ()))
  else if ¬ fresh D S G ph then (zeroT, (1, ()))
  else if s.1 = 3 ∧ S.1 < 0 ∧ 0 ≤ s.2 ∧ s.2 < L then ((P, (L, (K, (D, (H, ((ph, (s.2, 0)), G)))))), (0, ()))
  else if s.1 = 4 ∧ (G.length : Int) < K ∧ room P G = false then ((P, (L, (K, (D, (H, (S, G ++ [(ph, [])])))))), (0, ()))
  else (zeroT, (51, ()))

noncomputable def putS (s : Int × Int) (n : Int) : Tab × ((Int × Int) × (Int × Unit)) :=
  if ¬ Good P L K D H S G then (zeroT, ((0, 0), (50, ())))
  else if ¬ (0 ≤ n ∧ n < H.length) then (zeroT, ((0, 0), (1, ())))
  else if s.1 = 1 ∧ 0 ≤ S.1 ∧ S.2.1 = Int.tdiv n P ∧ S.2.2 = Int.tmod n P then ((P, (L, (K, (D, (H, ((S.1, (S.2.1, S.2.2 + 1)), G.map (fgc (isn n)))))))), ((S.1, S.2.2), (0, ())))
  else if s.1 = 2 ∧ room P G = true then
    ((P, (L, (K, (D, (H, (S, addLast (G.map (fgc (isn n))) n)))))), ((hth (kh := .int .i64) (ki := .int .i64) (addLast (G.map (fgc (isn n))) n) (G.length - 1), (((ith (A := Int) (ki := .int .i64) (addLast (G.map (fgc (isn n))) n) (G.length - 1)).length : Nat) : Int) - 1), (0, ())))
  else (zeroT, ((0, 0), (51, ())))

noncomputable def skipS (s : Int × Int) : Tab × (Int × Unit) :=
  if ¬ Good P L K D H S G then (zeroT, (50, ()))
  else if s.1 = 2 ∧ room P G = true then ((P, (L, (K, (D, (H, (S, addLast G (-1))))))), (0, ()))
  else (zeroT, (51, ()))
end

section
variable {P L K : Int} {D : List Int} {H : List Bool} {S : Int × (Int × Int)} {G : List Log}

theorem ok_eq {A : Type} {o : Option A} {r : A} (h : Ok o (fun x => x = r)) : o = some r := by
  obtain ⟨x, e, h⟩ := h; rw [e, h]

theorem Good.el (h : Good P L K D H S G) : ∀ g ∈ G, g.2.length ≤ 32 := fun g hg => by
  obtain ⟨i, hi, e⟩ := List.getElem_of_mem hg
  have := h.sz.2.2.2 i hi
  rw [List.getD_eq_getElem?_getD, List.getElem?_eq_getElem hi] at this
  simp only [Option.getD_some] at this
  rw [e] at this; exact this

theorem m15_spec (s : Int × Int) (ph : Int) : m15 ((P, (L, (K, (D, (H, (S, G)))))), (s, (ph, ()))) = some (openS P L K D H S G s ph) := by
  apply ok_eq
  unfold m15
  unfold openS
  by_cases h : Good P L K D H S G
  rotate_left
  · rw [m25_bad h]
    simp only [Option.bind_some]
    refine Ok.ncond (fun _ => Ok.some ?_) (fun h1 => by simp at h1)
    rw [if_pos h]; rfl
  rw [m25_good h, if_neg (Classical.not_not.2 h)]
  simp only [Option.bind_some]
  obtain ⟨s1, s2, s3, s4⟩ := h.sz
  have hs := h.li.sh
  obtain ⟨p1, p2, p3, p4, p5, p6⟩ := hs
  refine Ok.ncond (fun h1 => absurd trivial h1) (fun _ => ?_)
  refine Ok.bind (m47_ok h ph) fun y hy => ?_
  refine Ok.condb (fun h1 => ?_) (fun h1 => ?_)
  · have : ¬ fresh D S G ph := fun g => by rw [hy.2 g] at h1; simp at h1
    rw [if_pos this]; exact Ok.some rfl
  have hf : fresh D S G ph := hy.1 (by simpa using h1)
  rw [if_neg (Classical.not_not.2 hf)]
  rw [clo_eq P L K D H S G (by omega) (fun i hi => by have := s4 i hi; omega)]
  simp only [Option.bind_some]
  refine Ok.gd (by omega) (Ok.gd (by omega) (Ok.gd (by omega) (Ok.gd (by omega) (Ok.gd (by omega) (Ok.gd (by omega) ?_)))))
  have tail : ¬ (s.1 = 3 ∧ S.1 < 0 ∧ 0 ≤ s.2 ∧ s.2 < L) → Ok (m15t ((P, (L, (K, (D, (H, (S, G)))))), (s, (ph, ()))) (P, (L, (K, (D, (H, (S.1, (S.2.1, (S.2.2, G))))))))) (fun r => r = if s.1 = 3 ∧ S.1 < 0 ∧ 0 ≤ s.2 ∧ s.2 < L then ((P, (L, (K, (D, (H, ((ph, (s.2, 0)), G)))))), (0, ()))
      else if s.1 = 4 ∧ (G.length : Int) < K ∧ room P G = false then ((P, (L, (K, (D, (H, (S, G ++ [(ph, [])])))))), (0, ()))
      else (zeroT, (51, ()))) := by
    intro hn
    rw [if_neg hn]
    unfold m15t
    refine Ok.cond (fun a => Ok.cond (fun b => ?_) (fun b => Ok.some ?_)) (fun a => Ok.some ?_)
    · rw [m49_eq P L K D H S G (by omega)]
      simp only [Option.bind_some] at a b ⊢
      refine Ok.condb (fun c => Ok.gd (by omega) (Ok.gd (by omega) (Ok.some ?_))) (fun c => Ok.some ?_)
      · simp only [Bool.not_eq_true'] at c
        rw [if_pos ⟨a, b, c⟩]
      · simp only [Bool.not_eq_false'] at c
        rw [if_neg (fun g => by rw [g.2.2] at c; simp at c)]; rfl
    · rw [if_neg (fun g => b g.2.1)]; rfl
    · rw [if_neg (fun g => a g.1)]; rfl
  rw [wrap64 (n := L - 1) (by omega) (by omega), m40_eq]
  simp only [Option.bind_some]
  refine Ok.cond (fun a => Ok.cond (fun b => Ok.cond (fun c => Ok.some ?_) (fun c => tail fun g => c ⟨g.2.2.1, by have := g.2.2.2; omega⟩)) (fun b => tail fun g => b g.2.1)) (fun a => tail fun g => a g.1)
  rw [if_pos ⟨a, b, c.1, by omega⟩]

theorem m16_spec (s : Int × Int) (ph : Int) : m16 ((P, (L, (K, (D, (H, (S, G)))))), (s, (ph, ()))) = some (openS P L K D H S G s ph) := by
  apply ok_eq
  unfold m16
  unfold openS
  by_cases h : Good P L K D H S G
  rotate_left
  · rw [m43_bad h]
    simp only [Option.bind_some]
    refine Ok.ncond (fun _ => Ok.some ?_) (fun h1 => by simp at h1)
    rw [if_pos h]; rfl
  rw [m43_good h, if_neg (Classical.not_not.2 h)]
  simp only [Option.bind_some]
  obtain ⟨s1, s2, s3, s4⟩ := h.sz
  have hs := h.li.sh
  obtain ⟨p1, p2, p3, p4, p5, p6⟩ := hs
  refine Ok.ncond (fun h1 => absurd trivial h1) (fun _ => ?_)
  refine Ok.bind (m50_ok h ph) fun y hy => ?_
  refine Ok.condb (fun h1 => ?_) (fun h1 => ?_)
  · have : ¬ fresh D S G ph := fun g => by rw [hy.2 g] at h1; simp at h1
    rw [if_pos this]; exact Ok.some rfl
  have hf : fresh D S G ph := hy.1 (by simpa using h1)
  rw [if_neg (Classical.not_not.2 hf)]
  rw [clr_eq P L K D H S G (by omega) (fun i hi => by have := s4 i hi; omega)]
  simp only [Option.bind_some, List.length_nil, Nat.zero_add]
  refine Ok.gd (by omega) (Ok.gd (by omega) (Ok.gd (by omega) (Ok.gd (by omega) ?_)))
  have tail : ¬ (s.1 = 3 ∧ S.1 < 0 ∧ 0 ≤ s.2 ∧ s.2 < L) → Ok (m16t ((P, (L, (K, (D, (H, (S, G)))))), (s, (ph, ()))) (P, (L, (K, (D, (H, (S.1, (S.2.1, (S.2.2, G))))))))) (fun r => r = if s.1 = 3 ∧ S.1 < 0 ∧ 0 ≤ s.2 ∧ s.2 < L then ((P, (L, (K, (D, (H, ((ph, (s.2, 0)), G)))))), (0, ()))
      else if s.1 = 4 ∧ (G.length : Int) < K ∧ room P G = false then ((P, (L, (K, (D, (H, (S, G ++ [(ph, [])])))))), (0, ()))
      else (zeroT, (51, ()))) := by
    intro hn
    rw [if_neg hn]
    unfold m16t
    refine Ok.cond (fun a => Ok.cond (fun b => ?_) (fun b => Ok.some ?_)) (fun a => Ok.some ?_)
    · rw [m46_eq P L K D H S G (by omega)]
      simp only [Option.bind_some] at a b ⊢
      refine Ok.condb (fun c => Ok.gd (by omega) (Ok.gd (by omega) (Ok.some ?_))) (fun c => Ok.some ?_)
      · simp only [Bool.not_eq_true'] at c
        rw [if_pos ⟨a, b, c⟩]
      · simp only [Bool.not_eq_false'] at c
        rw [if_neg (fun g => by rw [g.2.2] at c; simp at c)]; rfl
    · rw [if_neg (fun g => b g.2.1)]; rfl
    · rw [if_neg (fun g => a g.1)]; rfl
  refine Ok.cond (fun a => Ok.cond (fun b => Ok.cond (fun c => Ok.cond (fun d => Ok.some ?_) (fun d => tail fun g => d g.2.2.2)) (fun c => tail fun g => c g.2.2.1)) (fun b => tail fun g => b g.2.1)) (fun a => tail fun g => a g.1)
  rw [if_pos ⟨a, b, c, d⟩]

theorem m18_spec (s : Int × Int) (n : Int) : m18 ((P, (L, (K, (D, (H, (S, G)))))), (s, (n, ()))) = some (putS P L K D H S G s n) := by
  apply ok_eq
  unfold m18
  unfold putS
  by_cases h : Good P L K D H S G
  rotate_left
  · rw [m25_bad h]
    simp only [Option.bind_some]
    refine Ok.ncond (fun _ => Ok.some ?_) (fun h1 => by simp at h1)
    rw [if_pos h]; rfl
  rw [m25_good h, if_neg (Classical.not_not.2 h)]
  simp only [Option.bind_some]
  obtain ⟨s1, s2, s3, s4⟩ := h.sz
  have hs := h.li.sh
  have hm := shape_mul hs
  have hHl := h.li.hl
  have hsq := h.li.sq
  obtain ⟨p1, p2, p3, p4, p5, p6⟩ := hs
  refine Ok.ncond (fun h1 => absurd trivial h1) (fun _ => ?_)
  rw [wrap64 (n := ((H.length : Nat) : Int) - 1) (by omega) (by omega), m40_eq]
  simp only [Option.bind_some]
  refine Ok.ncond (fun h1 => Ok.some ?_) (fun h1 => ?_)
  · rw [if_pos (fun g => h1 (by omega))]; rfl
  rw [if_neg (Classical.not_not.2 ⟨h1.1, by omega⟩)]
  rw [clo_eq P L K D H S G (by omega) (fun i hi => by have := s4 i hi; omega)]
  simp only [Option.bind_some]
  refine Ok.gd (by omega) (Ok.gd (by omega) (Ok.gd (by omega) (Ok.gd (by omega) (Ok.gd (by omega) (Ok.gd (by omega) ?_)))))
  rw [m18f_eq n h1.1 G (by omega) h.el]
  simp only [Option.bind_some]
  obtain ⟨N, rfl⟩ : ∃ N : Nat, n = N := ⟨n.toNat, by omega⟩
  obtain ⟨Q, rfl⟩ : ∃ Q : Nat, P = Q := ⟨P.toNat, by omega⟩
  have hdv : N / Q < 10000 := Nat.lt_of_le_of_lt (Nat.div_le_self _ _) (by omega)
  obtain ⟨G', hG'⟩ : ∃ G', G' = G.map (fgc (isn (N : Int))) := ⟨_, rfl⟩
  have hl' : G'.length = G.length := by rw [hG', List.length_map]
  have hrm : room Q G' = room Q G := by rw [hG', room_fgc]
  have hel : ∀ g ∈ G', g.2.length ≤ 32 := fun g hg => by
    rw [hG'] at hg
    obtain ⟨g', hg', rfl⟩ := List.mem_map.1 hg
    have := h.el g' hg'
    simpa [fgc] using this
  rw [← hG']
  have tail : ¬ (s.1 = 1 ∧ 0 ≤ S.1 ∧ S.2.1 = Int.tdiv (N : Int) Q ∧ S.2.2 = Int.tmod (N : Int) Q) → Ok (m18t (((Q : Int), (L, (K, (D, (H, (S, G)))))), (s, ((N : Int), ()))) ((Q : Int), (L, (K, (D, (H, (S.1, (S.2.1, (S.2.2, G)))))))) G') (fun r => r = if s.1 = 1 ∧ 0 ≤ S.1 ∧ S.2.1 = Int.tdiv (N : Int) Q ∧ S.2.2 = Int.tmod (N : Int) Q then (((Q : Int), (L, (K, (D, (H, ((S.1, (S.2.1, S.2.2 + 1)), G')))))), ((S.1, S.2.2), (0, ())))
      else if s.1 = 2 ∧ room Q G = true then
        (((Q : Int), (L, (K, (D, (H, (S, addLast G' N)))))), ((hth (kh := .int .i64) (ki := .int .i64) (addLast G' N) (G.length - 1), (((ith (A := Int) (ki := .int .i64) (addLast G' N) (G.length - 1)).length : Nat) : Int) - 1), (0, ())))
      else (zeroT, ((0, 0), (51, ())))) := by
    intro hn
    rw [if_neg hn]
    unfold m18t
    refine Ok.cond (fun a => ?_) (fun a => Ok.some ?_)
    · rw [m49_eq _ _ _ _ _ _ _ (by omega), hrm]
      simp only [Option.bind_some] at a ⊢
      refine Ok.condb (fun c => ?_) (fun c => Ok.some ?_)
      · rw [if_pos ⟨a, c⟩]
        have hpos : 0 < G.length := by
          unfold room at c; simp only [decide_eq_true_eq] at c; exact c.1
        rw [wrap64 (n := ((G.length : Nat) : Int) - 1) (by omega) (by omega)]
        have e1 : ((((G.length : Nat) : Int) - 1).toNat) = G.length - 1 := by omega
        obtain ⟨A, g, hAg⟩ : ∃ A g, G' = A ++ [g] := ⟨G'.dropLast, G'.getLast (by intro e; rw [e] at hl'; simp at hl'; omega), (List.dropLast_concat_getLast _).symm⟩
        have hAl : G.length - 1 = A.length := by rw [← hl', hAg]; simp
        have hgl : g.2.length ≤ 32 := hel g (by rw [hAg]; simp)
        have e2 : setIn (A := Int) (ki := .int .i64) (A ++ [g]) A.length (g.2 ++ [(N : Int)]) = A ++ [(g.1, g.2 ++ [(N : Int)])] := setIn_mid A [] g _
        have e3 : ith (A := Int) (ki := .int .i64) (A ++ [g]) A.length = g.2 := ith_mid A [] g
        have e4 : ith (A := Int) (ki := .int .i64) (A ++ [(g.1, g.2 ++ [(N : Int)])]) A.length = g.2 ++ [(N : Int)] := ith_mid A [] _
        have e5 : hth (kh := .int .i64) (ki := .int .i64) (A ++ [(g.1, g.2 ++ [(N : Int)])]) A.length = g.1 := hth_mid A [] _
        subst hAg
        simp only [e1, hAl, e3, e2, e4, e5, addLast_snoc]
        have hx : (A ++ [g]).length = A.length + 1 := by simp
        have hx2 : (A ++ [(g.1, g.2 ++ [(N : Int)])]).length = A.length + 1 := by simp
        have hx3 : (g.2 ++ [(N : Int)]).length = g.2.length + 1 := by simp
        rw [hx2, hx3, hx, wrap64 (n := ((g.2.length + 1 : Nat) : Int) - 1) (by omega) (by omega)]
        refine Ok.gd (by omega) (Ok.gd (by omega) (Ok.gd (by omega) (Ok.gd (by simp; omega) (Ok.gd (by simp; omega) (Ok.gd (by omega) (Ok.gd (by omega) (Ok.gd trivial (Ok.gd trivial (Ok.gd (by omega) (Ok.gd (by omega) (Ok.gd (by omega) (Ok.gd (by omega) (Ok.gd (by omega) (Ok.gd (by omega) (Ok.some rfl)))))))))))))))
      · rw [if_neg (fun g => by rw [g.2] at c; simp at c)]; rfl
    · rw [if_neg (fun g => a g.1)]; rfl
  refine Ok.cond (fun a => Ok.cond (fun b => ?_) (fun b => tail fun g => b g.2.1)) (fun a => tail fun g => a g.1)
  obtain ⟨bb, hb⟩ : ∃ b, N / Q = b := ⟨_, rfl⟩
  rw [hb] at hdv
  simp only [div_mod.1, div_mod.2, hb] at tail ⊢
  rw [wrap64 (n := (bb : Int)) (by omega) (by omega)]
  refine Ok.ite (fun e => by omega) (fun _ => ?_)
  refine Ok.cond (fun c => ?_) (fun c => tail fun g => c g.2.2.1)
  refine Ok.ite (fun e => by omega) (fun _ => ?_)
  refine Ok.cond (fun d => Ok.some ?_) (fun d => tail fun g => d g.2.2.2)
  have hu : 0 ≤ S.2.2 ∧ S.2.2 ≤ 100 := by
    rcases hsq with e | e
    · rw [e]; simp
    · omega
  rw [if_pos ⟨a, b, c, d⟩, wrap64 (n := S.2.2 + 1) (by omega) (by omega), wrap64 (n := S.2.2 + 1 - 1) (by omega) (by omega), show S.2.2 + 1 - 1 = S.2.2 by omega]

theorem m19_spec (s : Int × Int) (n : Int) : m19 ((P, (L, (K, (D, (H, (S, G)))))), (s, (n, ()))) = some (putS P L K D H S G s n) := by
  apply ok_eq
  unfold m19
  unfold putS
  by_cases h : Good P L K D H S G
  rotate_left
  · rw [m43_bad h]
    simp only [Option.bind_some]
    refine Ok.ncond (fun _ => Ok.some ?_) (fun h1 => by simp at h1)
    rw [if_pos h]; rfl
  rw [m43_good h, if_neg (Classical.not_not.2 h)]
  simp only [Option.bind_some]
  obtain ⟨s1, s2, s3, s4⟩ := h.sz
  have hs := h.li.sh
  have hm := shape_mul hs
  have hHl := h.li.hl
  have hsq := h.li.sq
  obtain ⟨p1, p2, p3, p4, p5, p6⟩ := hs
  refine Ok.ncond (fun h1 => absurd trivial h1) (fun _ => ?_)
  refine Ok.bind (S := fun y => y.1 = decide (0 ≤ n ∧ n < H.length)) ?_ fun y hy => ?_
  · unfold m44
    simp only
    rw [wrap64 (n := P * L) (by omega) (by omega), ← hHl]
    refine Ok.cond (fun a => Ok.some ?_) (fun a => Ok.some ?_)
    · simp only [decide_eq_decide]; omega
    · simp only; rw [decide_eq_false (by omega)]
  rw [hy]
  refine Ok.ncond (fun h1 => Ok.some ?_) (fun h1 => ?_)
  · rw [if_pos h1]; rfl
  rw [if_neg (Classical.not_not.2 h1)]
  refine Ok.ite (fun e => by have e : P = 0 := e; omega) (fun _ => Ok.ite (fun e => by have e : P = 0 := e; omega) (fun _ => ?_))
  rw [clr_eq P L K D H S G (by omega) (fun i hi => by have := s4 i hi; omega)]
  simp only [Option.bind_some, List.length_nil, Nat.zero_add]
  refine Ok.gd (by omega) (Ok.gd (by omega) (Ok.gd (by omega) (Ok.gd (by omega) ?_)))
  rw [m19f_eq n h1.1 (by omega) G (by omega) h.el]
  simp only [Option.bind_some]
  obtain ⟨N, rfl⟩ : ∃ N : Nat, n = N := ⟨n.toNat, by omega⟩
  obtain ⟨Q, rfl⟩ : ∃ Q : Nat, P = Q := ⟨P.toNat, by omega⟩
  have hdv : N / Q < 10000 := Nat.lt_of_le_of_lt (Nat.div_le_self _ _) (by omega)
  obtain ⟨G', hG'⟩ : ∃ G', G' = G.map (fgc (isn (N : Int))) := ⟨_, rfl⟩
  have hl' : G'.length = G.length := by rw [hG', List.length_map]
  have hel : ∀ g ∈ G', g.2.length ≤ 32 := fun g hg => by
    rw [hG'] at hg
    obtain ⟨g', hg', rfl⟩ := List.mem_map.1 hg
    have := h.el g' hg'
    simpa [fgc] using this
  rw [← hG']
  have tail : ¬ (s.1 = 1 ∧ 0 ≤ S.1 ∧ S.2.1 = Int.tdiv (N : Int) Q ∧ S.2.2 = Int.tmod (N : Int) Q) → Ok (m19t (((Q : Int), (L, (K, (D, (H, (S, G)))))), (s, ((N : Int), ()))) ((Q : Int), (L, (K, (D, (H, (S.1, (S.2.1, (S.2.2, G)))))))) G') (fun r => r = if s.1 = 1 ∧ 0 ≤ S.1 ∧ S.2.1 = Int.tdiv (N : Int) Q ∧ S.2.2 = Int.tmod (N : Int) Q then (((Q : Int), (L, (K, (D, (H, ((S.1, (S.2.1, S.2.2 + 1)), G')))))), ((S.1, S.2.2), (0, ())))
      else if s.1 = 2 ∧ room Q G = true then
        (((Q : Int), (L, (K, (D, (H, (S, addLast G' N)))))), ((hth (kh := .int .i64) (ki := .int .i64) (addLast G' N) (G.length - 1), (((ith (A := Int) (ki := .int .i64) (addLast G' N) (G.length - 1)).length : Nat) : Int) - 1), (0, ())))
      else (zeroT, ((0, 0), (51, ())))) := by
    intro hn
    rw [if_neg hn]
    unfold m19t
    refine Ok.cond (fun a => ?_) (fun a => Ok.some ?_)
    · rw [m46_eq _ _ _ _ _ _ _ (by omega)]
      simp only [Option.bind_some] at a ⊢
      refine Ok.condb (fun c => ?_) (fun c => Ok.some ?_)
      · rw [if_pos ⟨a, c⟩]
        have hpos : 0 < G.length := by
          unfold room at c; simp only [decide_eq_true_eq] at c; exact c.1
        rw [wrap64 (n := ((G.length : Nat) : Int) - 1) (by omega) (by omega)]
        have e1 : ((((G.length : Nat) : Int) - 1).toNat) = G.length - 1 := by omega
        obtain ⟨A, g, hAg⟩ : ∃ A g, G' = A ++ [g] := ⟨G'.dropLast, G'.getLast (by intro e; rw [e] at hl'; simp at hl'; omega), (List.dropLast_concat_getLast _).symm⟩
        have hAl : G.length - 1 = A.length := by rw [← hl', hAg]; simp
        have hgl : g.2.length ≤ 32 := hel g (by rw [hAg]; simp)
        have e2 : setIn (A := Int) (ki := .int .i64) (A ++ [g]) A.length (g.2 ++ [(N : Int)]) = A ++ [(g.1, g.2 ++ [(N : Int)])] := setIn_mid A [] g _
        have e3 : ith (A := Int) (ki := .int .i64) (A ++ [g]) A.length = g.2 := ith_mid A [] g
        have e4 : ith (A := Int) (ki := .int .i64) (A ++ [(g.1, g.2 ++ [(N : Int)])]) A.length = g.2 ++ [(N : Int)] := ith_mid A [] _
        have e5 : hth (kh := .int .i64) (ki := .int .i64) (A ++ [(g.1, g.2 ++ [(N : Int)])]) A.length = g.1 := hth_mid A [] _
        subst hAg
        simp only [e1, hAl, e3, e2, e4, e5, addLast_snoc]
        have hx : (A ++ [g]).length = A.length + 1 := by simp
        have hx2 : (A ++ [(g.1, g.2 ++ [(N : Int)])]).length = A.length + 1 := by simp
        have hx3 : (g.2 ++ [(N : Int)]).length = g.2.length + 1 := by simp
        rw [hx2, hx3, hx, wrap64 (n := ((g.2.length + 1 : Nat) : Int) - 1) (by omega) (by omega)]
        refine Ok.gd (by omega) (Ok.gd (by omega) (Ok.gd (by omega) (Ok.gd (by simp; omega) (Ok.gd (by simp; omega) (Ok.gd (by omega) (Ok.gd (by omega) (Ok.gd trivial (Ok.gd trivial (Ok.gd (by omega) (Ok.gd (by omega) (Ok.gd (by omega) (Ok.gd (by omega) (Ok.gd (by omega) (Ok.gd (by omega) (Ok.some rfl)))))))))))))))
      · rw [if_neg (fun g => by rw [g.2] at c; simp at c)]; rfl
    · rw [if_neg (fun g => a g.1)]; rfl
  refine Ok.cond (fun a => Ok.cond (fun b => ?_) (fun b => tail fun g => b g.2.1)) (fun a => tail fun g => a g.1)
  obtain ⟨bb, hb⟩ : ∃ b, N / Q = b := ⟨_, rfl⟩
  rw [hb] at hdv
  simp only [div_mod.1, div_mod.2, hb] at tail ⊢
  rw [wrap64 (n := (bb : Int)) (by omega) (by omega)]
  refine Ok.cond (fun c => ?_) (fun c => tail fun g => c g.2.2.1)
  refine Ok.cond (fun d => Ok.some ?_) (fun d => tail fun g => d g.2.2.2)
  have hu : 0 ≤ S.2.2 ∧ S.2.2 ≤ 100 := by
    rcases hsq with e | e
    · rw [e]; simp
    · omega
  rw [if_pos ⟨a, b, c, d⟩, wrap64 (n := S.2.2 + 1) (by omega) (by omega), d]

theorem m20_spec (s : Int × Int) : m20 ((P, (L, (K, (D, (H, (S, G)))))), (s, ())) = some (skipS P L K D H S G s) := by
  apply ok_eq
  unfold m20
  unfold skipS
  by_cases h : Good P L K D H S G
  rotate_left
  · rw [m25_bad h]
    simp only [Option.bind_some]
    refine Ok.ncond (fun _ => Ok.some ?_) (fun h1 => by simp at h1)
    rw [if_pos h]; rfl
  rw [m25_good h, if_neg (Classical.not_not.2 h)]
  simp only [Option.bind_some]
  obtain ⟨s1, s2, s3, s4⟩ := h.sz
  refine Ok.ncond (fun h1 => absurd trivial h1) (fun _ => ?_)
  refine Ok.ncond (fun a => Ok.some ?_) (fun a => ?_)
  · rw [if_neg (fun g => a g.1)]; rfl
  rw [m49_eq _ _ _ _ _ _ _ (by omega)]
  simp only [Option.bind_some] at a ⊢
  refine Ok.condb (fun c => Ok.some ?_) (fun c => ?_)
  · rw [if_neg (fun g => by rw [g.2] at c; simp at c)]; rfl
  have c : room P G = true := by simpa using c
  rw [if_pos ⟨a, c⟩]
  rw [clo_eq P L K D H S G (by omega) (fun i hi => by have := s4 i hi; omega)]
  simp only [Option.bind_some]
  refine Ok.gd (by omega) (Ok.gd (by omega) (Ok.gd (by omega) (Ok.gd (by omega) (Ok.gd (by omega) (Ok.gd (by omega) ?_)))))
  have hpos : 0 < G.length := by
    unfold room at c; simp only [decide_eq_true_eq] at c; exact c.1
  rw [wrap64 (n := ((G.length : Nat) : Int) - 1) (by omega) (by omega)]
  have e1 : ((((G.length : Nat) : Int) - 1).toNat) = G.length - 1 := by omega
  have hel := h.el
  obtain ⟨A, g, hAg⟩ : ∃ A g, G = A ++ [g] := ⟨G.dropLast, G.getLast (by intro e; rw [e] at hpos; simp at hpos), (List.dropLast_concat_getLast _).symm⟩
  have hAl : G.length - 1 = A.length := by rw [hAg]; simp
  have hgl : g.2.length ≤ 32 := hel g (by rw [hAg]; simp)
  have e2 : setIn (A := Int) (ki := .int .i64) (A ++ [g]) A.length (g.2 ++ [(-1 : Int)]) = A ++ [(g.1, g.2 ++ [(-1 : Int)])] := setIn_mid A [] g _
  have e3 : ith (A := Int) (ki := .int .i64) (A ++ [g]) A.length = g.2 := ith_mid A [] g
  rw [e1, hAl]
  subst hAg
  simp only [e3, e2, addLast_snoc]
  have hx : (A ++ [g]).length = A.length + 1 := by simp
  rw [hx]
  exact Ok.gd (by omega) (Ok.gd (by omega) (Ok.gd (by omega) (Ok.gd (by simp; omega) (Ok.gd (by simp; omega) (Ok.gd (by omega) (Ok.gd (by omega) (Ok.gd trivial (Ok.gd trivial (Ok.some rfl)))))))))

theorem m21_spec (s : Int × Int) : m21 ((P, (L, (K, (D, (H, (S, G)))))), (s, ())) = some (skipS P L K D H S G s) := by
  apply ok_eq
  unfold m21
  unfold skipS
  by_cases h : Good P L K D H S G
  rotate_left
  · rw [m43_bad h]
    simp only [Option.bind_some]
    refine Ok.ncond (fun _ => Ok.some ?_) (fun h1 => by simp at h1)
    rw [if_pos h]; rfl
  rw [m43_good h, if_neg (Classical.not_not.2 h)]
  simp only [Option.bind_some]
  obtain ⟨s1, s2, s3, s4⟩ := h.sz
  refine Ok.ncond (fun h1 => absurd trivial h1) (fun _ => ?_)
  refine Ok.ncond (fun a => Ok.some ?_) (fun a => ?_)
  · rw [if_neg (fun g => a g.1)]; rfl
  rw [m46_eq _ _ _ _ _ _ _ (by omega)]
  simp only [Option.bind_some] at a ⊢
  refine Ok.condb (fun c => Ok.some ?_) (fun c => ?_)
  · rw [if_neg (fun g => by rw [g.2] at c; simp at c)]; rfl
  have c : room P G = true := by simpa using c
  rw [if_pos ⟨a, c⟩]
  rw [clr_eq P L K D H S G (by omega) (fun i hi => by have := s4 i hi; omega)]
  simp only [Option.bind_some, List.length_nil, Nat.zero_add]
  refine Ok.gd (by omega) (Ok.gd (by omega) (Ok.gd (by omega) (Ok.gd (by omega) ?_)))
  have hpos : 0 < G.length := by
    unfold room at c; simp only [decide_eq_true_eq] at c; exact c.1
  rw [wrap64 (n := ((G.length : Nat) : Int) - 1) (by omega) (by omega)]
  have e1 : ((((G.length : Nat) : Int) - 1).toNat) = G.length - 1 := by omega
  have hel := h.el
  obtain ⟨A, g, hAg⟩ : ∃ A g, G = A ++ [g] := ⟨G.dropLast, G.getLast (by intro e; rw [e] at hpos; simp at hpos), (List.dropLast_concat_getLast _).symm⟩
  have hAl : G.length - 1 = A.length := by rw [hAg]; simp
  have hgl : g.2.length ≤ 32 := hel g (by rw [hAg]; simp)
  have e2 : setIn (A := Int) (ki := .int .i64) (A ++ [g]) A.length (g.2 ++ [(-1 : Int)]) = A ++ [(g.1, g.2 ++ [(-1 : Int)])] := setIn_mid A [] g _
  have e3 : ith (A := Int) (ki := .int .i64) (A ++ [g]) A.length = g.2 := ith_mid A [] g
  rw [e1, hAl]
  subst hAg
  simp only [e3, e2, addLast_snoc]
  have hx : (A ++ [g]).length = A.length + 1 := by simp
  rw [hx]
  exact Ok.gd (by omega) (Ok.gd (by omega) (Ok.gd (by omega) (Ok.gd (by simp; omega) (Ok.gd (by simp; omega) (Ok.gd (by omega) (Ok.gd (by omega) (Ok.gd trivial (Ok.gd trivial (Ok.some rfl)))))))))
end
end Go.Proofs.Ytecadglgkhfaaaa
end

section
namespace Go.Proofs.Ytecadglgkhfaaaa
open Go Go.Proofs.AM

def ovr (P : Int) (S : Int × (Int × Int)) (G : List Log) : Prop := ∃ g ∈ G, ∃ p ∈ g.2, 0 ≤ p ∧ Int.tdiv p P = S.2.1 ∧ Int.tmod p P < S.2.2

section
variable {P L K : Int} {D : List Int} {H : List Bool} {S : Int × (Int × Int)} {G : List Log}

theorem getD_cons_drop {A : Type} {l : List A} {i : Nat} {z : A} (h : i < l.length) : l.drop i = l.getD i z :: l.drop (i + 1) := by
  rw [List.getD_eq_getElem?_getD, List.getElem?_eq_getElem h, Option.getD_some, List.drop_eq_getElem_cons h]

theorem div_lt {p Q : Nat} (h : p < 100000) : p / Q < 100000 := Nat.lt_of_le_of_lt (Nat.div_le_self _ _) h

theorem tdiv_ok {p P : Int} (h0 : 0 ≤ p) (h1 : p < 8192) (hP : 4 ≤ P) : IntKind.wrap .i64 (Int.tdiv p P) = Int.tdiv p P := by
  obtain ⟨N, rfl⟩ : ∃ N : Nat, p = N := ⟨p.toNat, by omega⟩
  obtain ⟨Q, rfl⟩ : ∃ Q : Nat, P = Q := ⟨P.toNat, by omega⟩
  have hd := div_lt (p := N) (Q := Q) (by omega)
  rw [div_mod.1]
  obtain ⟨b, hb⟩ : ∃ b, N / Q = b := ⟨_, rfl⟩
  rw [hb] at hd ⊢
  rw [wrap64 (by omega) (by omega)]

theorem Good.pages (h : Good P L K D H S G) : ∀ g ∈ G, ∀ p ∈ g.2, -1 ≤ p ∧ p < 8192 := fun g hg p hp => by
  have hm := shape_mul h.li.sh
  obtain ⟨i, hi, e⟩ := List.getElem_of_mem hg
  have := (h.li.lg i hi).pg
  rw [List.getD_eq_getElem?_getD, List.getElem?_eq_getElem hi] at this
  simp only [Option.getD_some] at this
  rw [e] at this
  obtain ⟨j, hj, e2⟩ := List.getElem_of_mem hp
  have := this j hj
  rw [List.getD_eq_getElem?_getD, List.getElem?_eq_getElem hj] at this
  simp only [Option.getD_some] at this
  rw [e2] at this
  omega

theorem m62_ok (h : Good P L K D H S G) : Ok (m62 ((P, (L, (K, (D, (H, (S, G)))))), ())) (fun r => r.1 = true ↔ ovr P S G) := by
  obtain ⟨s1, s2, s3, s4⟩ := h.sz
  have hpg := h.pages
  have hel := h.el
  have hP := h.li.sh.1
  unfold m62
  refine Ok.bind (S := fun e => match e with | .inl _ => ¬ ovr P S G | .inr v => v = true ∧ ovr P S G) (Ok.loop G.length (fun i x => x = (i : Int) ∧ ∀ g ∈ G.take i, ∀ p ∈ g.2, ¬ (0 ≤ p ∧ Int.tdiv p P = S.2.1 ∧ Int.tmod p P < S.2.2)) ⟨rfl, fun g hg => by simp at hg⟩ ?_) fun y hy => ?_
  · rintro i x hi ⟨rfl, hq0⟩
    refine Ok.cond (fun hc => ?_) (fun hc => Ok.inr ?_)
    rotate_left
    · simp only at hc
      rw [List.take_of_length_le (by omega)] at hq0
      exact fun ⟨g, hg, p, hp, e⟩ => hq0 g hg p hp e
    simp only [Int.toNat_natCast] at hc ⊢
    have hi' : i < G.length := by omega
    rw [wrap64 (n := (i : Int) + 1) (by omega) (by omega)]
    refine Ok.gd (by omega) (Ok.gd (by omega) ?_)
    obtain ⟨g, hgd⟩ : ∃ g, g = G.getD i (0, []) := ⟨_, rfl⟩
    have hgm : g ∈ G := hgd ▸ getD_mem hi'
    have hgl := hel g hgm
    have hgp := hpg g hgm
    have htk : G.take (i + 1) = G.take i ++ [g] := hgd ▸ take_snoc G i hi' (0, [])
    simp only [← hgd]
    refine Ok.bind (S := fun e => match e with | .inl _ => ∀ p ∈ g.2, ¬ (0 ≤ p ∧ Int.tdiv p P = S.2.1 ∧ Int.tmod p P < S.2.2) | .inr v => v = true ∧ ovr P S G) (Ok.loop g.2.length (fun j x => x = (j : Int) ∧ ∀ p ∈ g.2.take j, ¬ (0 ≤ p ∧ Int.tdiv p P = S.2.1 ∧ Int.tmod p P < S.2.2)) ⟨rfl, fun p hp => by simp at hp⟩ ?_) fun y hy => ?_
    · rintro j x hj ⟨rfl, hr⟩
      refine Ok.cond (fun hc => ?_) (fun hc => Ok.inr ?_)
      rotate_left
      · rw [List.take_of_length_le (by omega)] at hr
        exact hr
      simp only [Int.toNat_natCast] at hc ⊢
      have hj' : j < g.2.length := by omega
      rw [wrap64 (n := (j : Int) + 1) (by omega) (by omega)]
      refine Ok.gd (by omega) (Ok.gd (by omega) ?_)
      obtain ⟨p, hpd⟩ : ∃ p, p = g.2.getD j 0 := ⟨_, rfl⟩
      have hpm : p ∈ g.2 := hpd ▸ getD_mem hj'
      have hpb := hgp p hpm
      have htk2 : g.2.take (j + 1) = g.2.take j ++ [p] := hpd ▸ take_snoc g.2 j hj' 0
      simp only [← hpd]
      have go : ¬ (0 ≤ p ∧ Int.tdiv p P = S.2.1 ∧ Int.tmod p P < S.2.2) → j < g.2.length ∧ ((j : Int) + 1 = ((j + 1 : Nat) : Int) ∧ ∀ p ∈ g.2.take (j + 1), ¬ (0 ≤ p ∧ Int.tdiv p P = S.2.1 ∧ Int.tmod p P < S.2.2)) := fun hn => by
        refine ⟨hj', by omega, fun q hq => ?_⟩
        rw [htk2] at hq
        rcases List.mem_append.1 hq with hq | hq
        · exact hr q hq
        · simp only [List.mem_singleton] at hq; subst hq; exact hn
      refine Ok.cond (fun a => ?_) (fun a => Ok.inl (go fun k => a k.1))
      rw [tdiv_ok a hpb.2 hP]
      refine Ok.ite (fun e => by omega) (fun _ => ?_)
      refine Ok.cond (fun b => ?_) (fun b => Ok.inl (go fun k => b k.2.1))
      refine Ok.ite (fun e => by omega) (fun _ => ?_)
      refine Ok.cond (fun c => Ok.inr ⟨rfl, g, hgm, _, hpm, a, b, c⟩) (fun c => Ok.inl (go fun k => c k.2.2))
    · refine Ok.elim (fun v e => ?_) (fun v e => ?_)
      · subst e
        refine Ok.inl ⟨hi', by omega, fun q hq => ?_⟩
        rw [htk] at hq
        rcases List.mem_append.1 hq with hq | hq
        · exact hq0 q hq
        · simp only [List.mem_singleton] at hq; subst hq; exact hy
      · subst e; exact Ok.inr hy
  · refine Ok.elim (fun v e => ?_) (fun v e => ?_)
    · subst e; exact Ok.some ⟨fun h => by simp at h, fun h => absurd h hy⟩
    · subst e; exact Ok.some ⟨fun _ => hy.2, fun _ => hy.1⟩

def whl (n : Int) (G : List Log) : (Int × Int) × (Bool × Unit) := match loc n G with
  | some p => (p, (true, ()))
  | none => ((0, 0), (false, ()))

theorem m75_ok (n : Int) (hG : G.length ≤ 100) (hel : ∀ g ∈ G, g.2.length ≤ 100) : m75 ((P, (L, (K, (D, (H, (S, G)))))), (n, ())) = some (whl n G) := by
  apply ok_eq
  unfold m75 whl
  refine Ok.bind (S := fun e => match e with | .inl _ => loc n G = none | .inr v => v.1 = true ∧ loc n G = some v.2) (Ok.loop G.length (fun i x => x.1 = (i : Int) ∧ loc n G = loc n (G.drop i)) ⟨rfl, by simp⟩ ?_) fun y hy => ?_
  · rintro i ⟨x1, x2⟩ hi ⟨hx, hq⟩
    simp only at hx hq
    subst hx
    refine Ok.cond (fun hc => ?_) (fun hc => Ok.inr (by simp only at hc; rw [hq, List.drop_of_length_le (by omega)]; rfl))
    simp only [Int.toNat_natCast] at hc ⊢
    have hi' : i < G.length := by omega
    rw [wrap64 (n := (i : Int) + 1) (by omega) (by omega)]
    have e1 := getD_cons_drop (z := ((0 : Int), ([] : List Int))) hi'
    obtain ⟨g, hgd⟩ : ∃ g, g = G.getD i (0, []) := ⟨_, rfl⟩
    have hgl := hel g (hgd ▸ getD_mem hi')
    rw [← hgd] at e1
    simp only [← hgd]
    rw [e1, loc] at hq
    refine Ok.bind (S := fun e => match e with | .inl _ => pos n g.2 = none | .inr v => v.1 = true ∧ v.2.1 = g.1 ∧ ∃ k : Nat, v.2.2 = k ∧ pos n g.2 = some k) (Ok.loop g.2.length (fun j x => x.1 = (j : Int) ∧ ∀ k, k < j → g.2.getD k 0 ≠ n) ⟨rfl, fun k hk => by omega⟩ ?_) fun y hy => ?_
    · rintro j ⟨z1, z2⟩ hj ⟨hz, hr⟩
      simp only at hz hr
      subst hz
      refine Ok.gd (by omega) (Ok.gd (by omega) ?_)
      refine Ok.cond (fun hc => ?_) (fun hc => Ok.inr (by simp only at hc; exact pos_none.2 (not_mem_getD fun k hk => hr k (by omega))))
      simp only [Int.toNat_natCast] at hc ⊢
      rw [wrap64 (n := (j : Int) + 1) (by omega) (by omega)]
      refine Ok.gd (by omega) (Ok.gd (by omega) (Ok.gd (by omega) (Ok.gd (by omega) ?_)))
      refine Ok.cond (fun a => Ok.gd (by omega) (Ok.gd (by omega) (Ok.inr ⟨rfl, rfl, j, rfl, pos_some (by omega) a hr⟩))) (fun a => Ok.inl ⟨by omega, by simp, fun k hk => ?_⟩)
      by_cases e : k = j
      · subst e; exact a
      · exact hr k (by omega)
    · refine Ok.elim (fun v e => ?_) (fun v e => ?_)
      · subst e
        have hy : pos n g.2 = none := hy
        rw [hy] at hq
        exact Ok.inl ⟨hi', by simp, hq⟩
      · subst e
        obtain ⟨h1, h2, k, h3, h4⟩ := hy
        rw [h4] at hq
        exact Ok.inr ⟨h1, by simp only; rw [h2, h3]; exact hq⟩
  · refine Ok.elim (fun v e => ?_) (fun v e => ?_)
    · subst e
      have hy : loc n G = none := hy
      rw [hy]; exact Ok.some rfl
    · subst e
      rw [hy.2]; exact Ok.some (by rw [hy.1])

theorem loc_none {n : Int} : ∀ {G : List Log}, loc n G = none ↔ ∀ g ∈ G, n ∉ g.2
  | [] => by simp [loc]
  | g :: G => by
    rw [loc]
    cases h : pos n g.2 with
    | none =>
      simp only [List.mem_cons, forall_eq_or_imp]
      rw [loc_none]
      exact ⟨fun k => ⟨pos_none.1 h, k⟩, fun k => k.2⟩
    | some k =>
      simp only [List.mem_cons, forall_eq_or_imp]
      refine ⟨fun g => by simp at g, fun g => ?_⟩
      rw [pos_none.2 g.1] at h; simp at h

theorem m45_ok (h : Good P L K D H S G) (hS : 0 ≤ S.1) : Ok (m45 ((P, (L, (K, (D, (H, (S, G)))))), ())) (fun r => r.1 = true ↔ ovr P S G) := by
  obtain ⟨s1, s2, s3, s4⟩ := h.sz
  have hel := h.el
  have hm := shape_mul h.li.sh
  obtain ⟨p1, p2, p3, p4, p5, p6⟩ := h.li.sh
  have hsq : 0 ≤ S.2.1 ∧ S.2.1 < L ∧ 0 ≤ S.2.2 ∧ S.2.2 ≤ P := by
    rcases h.li.sq with e | e
    · rw [e] at hS; simp at hS
    · exact e.2.2
  obtain ⟨Q, rfl⟩ : ∃ Q : Nat, P = Q := ⟨P.toNat, by omega⟩
  obtain ⟨b, hb⟩ : ∃ b : Nat, S.2.1 = b := ⟨S.2.1.toNat, by omega⟩
  obtain ⟨u, hu⟩ : ∃ u : Nat, S.2.2 = u := ⟨S.2.2.toNat, by omega⟩
  have hbQ : b * Q ≤ 8192 := by
    have : (b : Int) * Q ≤ L * Q := Int.mul_le_mul_of_nonneg_right (by omega) (by omega)
    have e : ((b * Q : Nat) : Int) = (b : Int) * Q := by simp
    omega
  have hov : ovr Q S G ↔ ∃ o, o < u ∧ loc ((b * Q + o : Nat) : Int) G ≠ none := by
    constructor
    · rintro ⟨g, hg, p, hp, h0, h1, h2⟩
      obtain ⟨N, rfl⟩ : ∃ N : Nat, p = N := ⟨p.toNat, by omega⟩
      rw [div_mod.1, hb] at h1
      rw [div_mod.2, hu] at h2
      refine ⟨N % Q, by omega, fun hn => ?_⟩
      have e : b * Q + N % Q = N := by
        have : N / Q = b := by omega
        rw [← this, Nat.mul_comm]; exact Nat.div_add_mod N Q
      rw [e] at hn
      exact loc_none.1 hn g hg hp
    · rintro ⟨o, ho, hl⟩
      have : ¬ ∀ g ∈ G, ((b * Q + o : Nat) : Int) ∉ g.2 := fun k => hl (loc_none.2 k)
      simp only [Classical.not_forall, Classical.not_not] at this
      obtain ⟨g, hg, hp⟩ := this
      refine ⟨g, hg, _, hp, by omega, ?_, ?_⟩
      · rw [div_mod.1, hb, Nat.mul_comm, Nat.mul_add_div (by omega), Nat.div_eq_of_lt (by omega)]; simp
      · rw [div_mod.2, hu, Nat.mul_comm, Nat.mul_add_mod, Nat.mod_eq_of_lt (by omega)]; omega
  unfold m45
  simp only [hb, hu]
  have e0 : (b : Int) * (Q : Int) = ((b * Q : Nat) : Int) := by simp
  rw [e0, wrap64 (n := ((b * Q : Nat) : Int)) (by omega) (by omega)]
  refine Ok.bind (S := fun e => match e with | .inl _ => ¬ ovr Q S G | .inr v => v = true ∧ ovr Q S G) (Ok.loop u (fun i x => x = (i : Int) ∧ ∀ o, o < i → loc ((b * Q + o : Nat) : Int) G = none) ⟨rfl, fun o ho => by omega⟩ ?_) fun y hy => ?_
  · rintro i x hi ⟨rfl, hq⟩
    refine Ok.cond (fun hc => ?_) (fun hc => Ok.inr ?_)
    rotate_left
    · rw [hov]; exact fun ⟨o, ho, hl⟩ => hl (hq o (by omega))
    rw [show ((b * Q : Nat) : Int) + (i : Int) = ((b * Q + i : Nat) : Int) by simp, wrap64 (n := ((b * Q + i : Nat) : Int)) (by omega) (by omega), m75_ok _ (by omega) (fun g hg => by have := hel g hg; omega), wrap64 (n := (i : Int) + 1) (by omega) (by omega)]
    simp only [Option.bind_some]
    unfold whl
    cases hl : loc ((b * Q + i : Nat) : Int) G with
    | none =>
      refine Ok.condb (fun h => by simp at h) (fun _ => Ok.inl ⟨by omega, by omega, fun o ho => ?_⟩)
      by_cases e : o = i
      · subst e; exact hl
      · exact hq o (by omega)
    | some p =>
      exact Ok.condb (fun _ => Ok.inr ⟨rfl, hov.2 ⟨i, by omega, by rw [hl]; simp⟩⟩) (fun h => by simp at h)
  · refine Ok.elim (fun v e => ?_) (fun v e => ?_)
    · subst e; exact Ok.some ⟨fun h => by simp at h, fun h => absurd h hy⟩
    · subst e; exact Ok.some ⟨fun _ => hy.2, fun _ => hy.1⟩
end

def fstp : List Int → Option Int
  | [] => none
  | p :: l => if 0 ≤ p then some p else fstp l

def randW (P K : Int) (G : List Log) : Int × Int :=
  if room P G = true then (2, 0) else if (G.length : Int) < K then (4, 0) else match fstp (G.getD 0 (0, [])).2 with
    | some p => (8, Int.tdiv p P)
    | none => (9, 0)

section
open Classical
variable (P L K : Int) (D : List Int) (H : List Bool) (S : Int × (Int × Int)) (G : List Log)

noncomputable def seqW (b : Int) : Int × Int :=
  if S.1 < 0 then (3, b) else if S.2.1 = b ∧ S.2.2 = 0 then (1, b) else if ovr P S G then (7, S.2.1) else if S.2.2 < P then (6, S.2.1) else (5, S.2.1)

noncomputable def wantS (n : Int) : (Int × Int) × (Int × Unit) :=
  if ¬ Good P L K D H S G then ((0, 0), (50, ()))
  else if ¬ (0 ≤ n ∧ n < H.length) then ((0, 0), (1, ()))
  else if Int.tmod n P = 0 then (seqW P S G (Int.tdiv n P), (0, ()))
  else if 0 ≤ S.1 ∧ S.2.1 = Int.tdiv n P ∧ S.2.2 = Int.tmod n P then ((1, Int.tdiv n P), (0, ()))
  else (randW P K G, (0, ()))
end

section
variable {P L K : Int} {D : List Int} {H : List Bool} {S : Int × (Int × Int)} {G : List Log}

open Classical in
theorem m41_spec (h : Good P L K D H S G) (b : Int) : m41 ((P, (L, (K, (D, (H, (S, G)))))), (b, ())) = some (seqW P S G b, ()) := by
  apply ok_eq
  unfold m41 seqW
  simp only [show decide ((3 : Int) = 5) = false from rfl, show decide ((3 : Int) = 6) = false from rfl, show decide ((3 : Int) = 7) = false from rfl, show decide ((1 : Int) = 5) = false from rfl, show decide ((1 : Int) = 6) = false from rfl, show decide ((1 : Int) = 7) = false from rfl,
    show decide ((7 : Int) = 5) = false from rfl, show decide ((7 : Int) = 6) = false from rfl, show decide ((7 : Int) = 7) = true from rfl, show decide ((6 : Int) = 5) = false from rfl, show decide ((6 : Int) = 6) = true from rfl, show decide ((5 : Int) = 5) = true from rfl, cond_true, cond_false]
  have tail : ¬ S.1 < 0 → ¬ (S.2.1 = b ∧ S.2.2 = 0) → Ok (Option.bind (m62 ((P, (L, (K, (D, (H, (S, G)))))), ())) fun (y1 : (Bool × Unit)) =>
      bif y1.1 then some (((7 : Int), S.2.1), ()) else (bif decide (S.2.2 < P) then some (((6 : Int), S.2.1), ()) else some (((5 : Int), S.2.1), ()))) (fun r => r = (if S.1 < 0 then (3, b) else if S.2.1 = b ∧ S.2.2 = 0 then (1, b) else if ovr P S G then (7, S.2.1) else if S.2.2 < P then (6, S.2.1) else (5, S.2.1), ())) := by
    intro h1 h2
    refine Ok.bind (m62_ok h) fun y hy => ?_
    rw [if_neg h1, if_neg h2]
    refine Ok.condb (fun a => Ok.some ?_) (fun a => ?_)
    · rw [if_pos (hy.1 a)]
    · rw [if_neg (fun g => by rw [hy.2 g] at a; simp at a)]
      refine Ok.cond (fun c => Ok.some ?_) (fun c => Ok.some ?_)
      · rw [if_pos c]
      · rw [if_neg c]
  refine Ok.cond (fun a => Ok.some ?_) (fun a => Ok.cond (fun c => Ok.cond (fun d => Ok.some ?_) (fun d => tail a fun g => d g.2)) (fun c => tail a fun g => c g.1))
  · rw [if_pos a]
  · rw [if_neg a, if_pos ⟨c, d⟩]

theorem fstp_drop {l : List Int} {j : Nat} (hj : j < l.length) : fstp (l.drop j) = if 0 ≤ l.getD j 0 then some (l.getD j 0) else fstp (l.drop (j + 1)) := by
  rw [getD_cons_drop (z := 0) hj]; rfl

theorem m42_spec (h : Good P L K D H S G) : m42 ((P, (L, (K, (D, (H, (S, G)))))), ()) = some (randW P K G, ()) := by
  apply ok_eq
  obtain ⟨s1, s2, s3, s4⟩ := h.sz
  obtain ⟨p1, p2, p3, p4, p5, p6⟩ := h.li.sh
  unfold m42 randW
  rw [m49_eq P L K D H S G (by omega)]
  simp only [Option.bind_some]
  refine Ok.condb (fun a => Ok.some ?_) (fun a => ?_)
  · rw [if_pos a]
  rw [if_neg (fun g => by rw [g] at a; simp at a)]
  refine Ok.cond (fun c => Ok.some ?_) (fun c => ?_)
  · rw [if_pos c]
  rw [if_neg c]
  have hpos : 0 < G.length := by omega
  refine Ok.gd (by omega) ?_
  simp only [Int.toNat_zero]
  obtain ⟨g, hgd⟩ : ∃ g, g = G.getD 0 (0, []) := ⟨_, rfl⟩
  have hgm : g ∈ G := hgd ▸ getD_mem hpos
  have hgl := h.el g hgm
  have hgp := h.pages g hgm
  simp only [← hgd]
  refine Ok.bind (S := fun e => match e with | .inl _ => fstp g.2 = none | .inr v => ∃ p, fstp g.2 = some p ∧ v = (8, Int.tdiv p P)) (Ok.loop g.2.length (fun j x => x.1 = (j : Int) ∧ fstp g.2 = fstp (g.2.drop j)) ⟨rfl, by simp⟩ ?_) fun y hy => ?_
  · rintro j ⟨x1, x2⟩ hj ⟨hx, hr⟩
    simp only at hx hr
    subst hx
    refine Ok.cond (fun hc => ?_) (fun hc => Ok.inr (by simp only at hc; rw [hr, List.drop_of_length_le (by omega)]; rfl))
    simp only [Int.toNat_natCast] at hc ⊢
    have hj' : j < g.2.length := by omega
    rw [wrap64 (n := (j : Int) + 1) (by omega) (by omega)]
    rw [fstp_drop hj'] at hr
    have hb := hgp _ (getD_mem (z := 0) hj')
    refine Ok.gd (by omega) (Ok.gd (by omega) ?_)
    refine Ok.cond (fun a => Ok.ite (fun e => by omega) (fun _ => Ok.inr ?_)) (fun a => Ok.inl ⟨hj', by simp, ?_⟩)
    · rw [if_pos a] at hr
      exact ⟨_, hr, by rw [tdiv_ok a hb.2 p1]⟩
    · rw [if_neg (by simpa using a)] at hr; exact hr
  · refine Ok.elim (fun v e => ?_) (fun v e => ?_)
    · subst e
      have hy : fstp g.2 = none := hy
      rw [hy]; exact Ok.some rfl
    · subst e
      obtain ⟨p, h1, h2⟩ := hy
      rw [h1]; exact Ok.some (by rw [h2])

theorem m13_spec (n : Int) : m13 ((P, (L, (K, (D, (H, (S, G)))))), (n, ())) = some (wantS P L K D H S G n) := by
  apply ok_eq
  unfold m13 wantS
  by_cases h : Good P L K D H S G
  rotate_left
  · rw [m25_bad h]
    simp only [Option.bind_some]
    refine Ok.ncond (fun _ => Ok.some ?_) (fun h1 => by simp at h1)
    rw [if_pos h]
  rw [m25_good h, if_neg (Classical.not_not.2 h)]
  simp only [Option.bind_some]
  obtain ⟨s1, s2, s3, s4⟩ := h.sz
  obtain ⟨p1, p2, p3, p4, p5, p6⟩ := h.li.sh
  refine Ok.ncond (fun h1 => absurd trivial h1) (fun _ => ?_)
  rw [wrap64 (n := ((H.length : Nat) : Int) - 1) (by omega) (by omega), m40_eq]
  simp only [Option.bind_some]
  refine Ok.ncond (fun h1 => Ok.some ?_) (fun h1 => ?_)
  · rw [if_pos (fun g => h1 (by omega))]
  rw [if_neg (Classical.not_not.2 ⟨h1.1, by omega⟩)]
  refine Ok.ite (fun e => by have e : P = 0 := e; omega) (fun _ => Ok.ite (fun e => by have e : P = 0 := e; omega) (fun _ => ?_))
  rw [tdiv_ok h1.1 (by omega) p1, m41_spec h, m42_spec h]
  simp only [Option.bind_some]
  refine Ok.cond (fun a => Ok.some ?_) (fun a => ?_)
  · rw [if_pos a]
  rw [if_neg a]
  refine Ok.cond (fun b => Ok.cond (fun c => Ok.cond (fun d => Ok.some ?_) (fun d => Ok.some ?_)) (fun c => Ok.some ?_)) (fun b => Ok.some ?_)
  · rw [if_pos ⟨b, c, d⟩]
  · rw [if_neg (fun g => d g.2.2)]
  · rw [if_neg (fun g => c g.2.1)]
  · rw [if_neg (fun g => b g.1)]

theorem m14_spec (n : Int) : m14 ((P, (L, (K, (D, (H, (S, G)))))), (n, ())) = some (wantS P L K D H S G n) := by
  apply ok_eq
  unfold m14
  unfold wantS
  by_cases h : Good P L K D H S G
  rotate_left
  · rw [m43_bad h]
    simp only [Option.bind_some]
    refine Ok.ncond (fun _ => Ok.some ?_) (fun h1 => by simp at h1)
    rw [if_pos h]
  rw [m43_good h, if_neg (Classical.not_not.2 h)]
  simp only [Option.bind_some]
  obtain ⟨s1, s2, s3, s4⟩ := h.sz
  have hm := shape_mul h.li.sh
  have hHl := h.li.hl
  have hsq := h.li.sq
  obtain ⟨p1, p2, p3, p4, p5, p6⟩ := h.li.sh
  refine Ok.ncond (fun h1 => absurd trivial h1) (fun _ => ?_)
  refine Ok.bind (S := fun y => y.1 = decide (0 ≤ n ∧ n < H.length)) ?_ fun y hy => ?_
  · unfold m44
    simp only
    rw [wrap64 (n := P * L) (by omega) (by omega), ← hHl]
    refine Ok.cond (fun a => Ok.some ?_) (fun a => Ok.some ?_)
    · simp only [decide_eq_decide]; omega
    · simp only; rw [decide_eq_false (by omega)]
  rw [hy]
  refine Ok.ncond (fun h1 => Ok.some ?_) (fun h1 => ?_)
  · rw [if_pos h1]
  rw [if_neg (Classical.not_not.2 h1)]
  refine Ok.ite (fun e => by have e : P = 0 := e; omega) (fun _ => Ok.ite (fun e => by have e : P = 0 := e; omega) (fun _ => ?_))
  have hw := tdiv_ok h1.1 (by omega) p1
  have tail : ¬ (0 ≤ S.1 ∧ S.2.1 = Int.tdiv n P ∧ S.2.2 = Int.tmod n P) → Ok (m14t ((P, (L, (K, (D, (H, (S, G)))))), (n, ()))) (fun r => r = if Int.tmod n P = 0 then (seqW P S G (Int.tdiv n P), (0, ()))
      else if 0 ≤ S.1 ∧ S.2.1 = Int.tdiv n P ∧ S.2.2 = Int.tmod n P then ((1, Int.tdiv n P), (0, ()))
      else (randW P K G, (0, ()))) := by
    intro hn
    unfold m14t
    simp only [hw]
    refine Ok.cond (fun a => ?_) (fun a => ?_)
    · rw [if_pos a]
      unfold seqW
      refine Ok.cond (fun b => Ok.some ?_) (fun b => ?_)
      · rw [if_pos b]
      rw [if_neg b, if_neg (fun g => hn ⟨by omega, g.1, by omega⟩)]
      refine Ok.bind (m45_ok h (by omega)) fun y hy => ?_
      refine Ok.condb (fun c => Ok.some ?_) (fun c => ?_)
      · rw [if_pos (hy.1 c)]
      rw [if_neg (fun g => by rw [hy.2 g] at c; simp at c)]
      have hle : S.2.2 ≤ P := by
        rcases hsq with e | e
        · rw [e] at b; simp at b
        · omega
      refine Ok.cond (fun d => Ok.some ?_) (fun d => Ok.some ?_)
      · rw [if_neg (by omega)]
      · rw [if_pos (by omega)]
    · rw [if_neg a, if_neg hn]
      rw [m46_eq P L K D H S G (by omega)]
      simp only [Option.bind_some]
      unfold randW
      refine Ok.condb (fun a => Ok.some ?_) (fun a => ?_)
      · rw [if_pos a]
      rw [if_neg (fun g => by rw [g] at a; simp at a)]
      refine Ok.cond (fun c => Ok.some ?_) (fun c => ?_)
      · rw [if_pos c]
      rw [if_neg c]
      have hpos : 0 < G.length := by omega
      simp only [Int.toNat_zero]
      obtain ⟨g, hgd⟩ : ∃ g, g = G.getD 0 (0, []) := ⟨_, rfl⟩
      have hgm : g ∈ G := hgd ▸ getD_mem hpos
      have hgl := h.el g hgm
      have hgp := h.pages g hgm
      simp only [← hgd]
      refine Ok.bind (S := fun e => match e with | .inl _ => fstp g.2 = none | .inr v => v.1 = 0 ∧ ∃ p, fstp g.2 = some p ∧ v.2 = (8, Int.tdiv p P)) (Ok.loop g.2.length (fun j x => x.1 = (j : Int) ∧ fstp g.2 = fstp (g.2.drop j)) ⟨rfl, by simp⟩ ?_) fun y hy => ?_
      · rintro j ⟨x1, x2⟩ hj ⟨hx, hr⟩
        simp only at hx hr
        subst hx
        refine Ok.gd (by omega) ?_
        refine Ok.cond (fun hc => ?_) (fun hc => Ok.inr (by simp only at hc; rw [hr, List.drop_of_length_le (by omega)]; rfl))
        simp only [Int.toNat_natCast] at hc ⊢
        have hj' : j < g.2.length := by omega
        rw [wrap64 (n := (j : Int) + 1) (by omega) (by omega)]
        rw [fstp_drop hj'] at hr
        have hb := hgp _ (getD_mem (z := 0) hj')
        refine Ok.gd (by omega) (Ok.gd (by omega) (Ok.gd (by omega) ?_))
        refine Ok.cond (fun a => Ok.gd (by omega) (Ok.gd (by omega) (Ok.gd (by omega) (Ok.ite (fun e => by omega) (fun _ => Ok.inr ?_))))) (fun a => Ok.inl ⟨hj', by simp, ?_⟩)
        · rw [if_pos a] at hr
          exact ⟨rfl, _, hr, by rw [tdiv_ok a hb.2 p1]⟩
        · rw [if_neg (by simpa using a)] at hr; exact hr
      · refine Ok.elim (fun v e => ?_) (fun v e => ?_)
        · subst e
          have hy : fstp g.2 = none := hy
          rw [hy]; exact Ok.some rfl
        · subst e
          obtain ⟨h0, p, h1, h2⟩ := hy
          rw [h1]; exact Ok.some (by rw [h2, h0])
  simp only [hw]
  refine Ok.cond (fun b => Ok.cond (fun c => Ok.cond (fun d => Ok.some ?_) (fun d => tail fun g => d g.2.2)) (fun c => tail fun g => c g.2.1)) (fun b => tail fun g => b g.1)
  by_cases a : Int.tmod n P = 0
  · rw [if_pos a]
    unfold seqW
    rw [if_neg (by omega), if_pos ⟨c, by omega⟩]
  · rw [if_neg a, if_pos ⟨b, c, d⟩]
end

theorem m51_same (l : List Int) (hl : l.length ≤ 4000000000000000000) : m51 (l, (l, ())) = some (true, ()) := by
  apply ok_eq
  unfold m51
  refine Ok.ncond (fun h => absurd rfl h) (fun _ => ?_)
  refine Ok.bind (S := fun e => match e with | .inl _ => True | .inr _ => False) (Ok.loop l.length (fun i x => x = (i : Int)) rfl ?_) fun y hy => ?_
  · rintro i x hi rfl
    refine Ok.cond (fun hc => ?_) (fun hc => Ok.inr trivial)
    simp only at hc
    rw [wrap64 (n := (i : Int) + 1) (by omega) (by omega)]
    refine Ok.gd (by omega) (Ok.gd (by omega) (Ok.gd (by omega) (Ok.gd (by omega) ?_)))
    exact Ok.ncond (fun h => absurd rfl h) (fun _ => Ok.inl ⟨by omega, by omega⟩)
  · refine Ok.elim (fun v e => ?_) (fun v e => ?_)
    · exact Ok.some rfl
    · subst e; exact hy.elim

theorem m17_same (P L K : Int) (D : List Int) (H : List Bool) (S : Int × (Int × Int)) (G : List Log) (hD : D.length ≤ 4000000000000000000) (hH : H.length ≤ 4000000000000000000) (hG : G.length ≤ 4000000000000000000) (hg : ∀ i, i < G.length → (G.getD i (0, [])).2.length ≤ 4000000000000000000) :
    m17 ((P, (L, (K, (D, (H, (S, G)))))), ((P, (L, (K, (D, (H, (S, G)))))), ())) = some (true, ()) := by
  apply ok_eq
  unfold m17
  refine Ok.ncond (fun h => absurd rfl h) (fun _ => Ok.ncond (fun h => absurd rfl h) (fun _ => Ok.ncond (fun h => absurd rfl h) (fun _ => ?_)))
  refine Ok.condb (fun h => by simp at h) (fun _ => ?_)
  simp only
  rw [m51_same D hD]
  simp only [Option.bind_some]
  refine Ok.condb (fun h => by simp at h) (fun _ => ?_)
  refine Ok.ncond (fun h => by simp at h) (fun _ => Ok.ncond (fun h => by simp at h) (fun _ => ?_))
  refine Ok.bind (S := fun e => match e with | .inl _ => True | .inr _ => False) (Ok.loop H.length (fun i x => x = (i : Int)) rfl ?_) fun y hy => ?_
  · rintro i x hi rfl
    refine Ok.cond (fun hc => ?_) (fun hc => Ok.inr trivial)
    rw [wrap64 (n := (i : Int) + 1) (by omega) (by omega)]
    refine Ok.gd (by omega) (Ok.gd (by omega) (Ok.gd (by omega) (Ok.gd (by omega) ?_)))
    refine Ok.condb (fun h => ?_) (fun _ => Ok.inl ⟨by omega, by omega⟩)
    cases hh : H.getD (Int.toNat (i : Int)) false <;> rw [hh] at h <;> simp at h
  · refine Ok.elim (fun v e => ?_) (fun v e => by subst e; exact hy.elim)
    refine Ok.bind (S := fun e => match e with | .inl _ => True | .inr _ => False) (Ok.loop G.length (fun i x => x = (i : Int)) rfl ?_) fun y hy => ?_
    · rintro i x hi rfl
      refine Ok.cond (fun hc => ?_) (fun hc => Ok.inr trivial)
      simp only [Int.toNat_natCast] at hc ⊢
      rw [wrap64 (n := (i : Int) + 1) (by omega) (by omega)]
      refine Ok.gd (by omega) (Ok.gd (by omega) (Ok.gd (by omega) (Ok.gd (by omega) ?_)))
      refine Ok.ncond (fun h => by simp at h) (fun _ => ?_)
      refine Ok.gd (by omega) (Ok.gd (by omega) (Ok.gd (by omega) (Ok.gd (by omega) ?_)))
      rw [m51_same _ (hg i (by omega))]
      simp only [Option.bind_some]
      exact Ok.condb (fun h => by simp at h) (fun _ => Ok.inl ⟨by omega, by omega⟩)
    · refine Ok.elim (fun v e => Ok.some rfl) (fun v e => by subst e; exact hy.elim)
end Go.Proofs.Ytecadglgkhfaaaa
end

section
namespace Go.Proofs.Ytecadglgkhfaaaa
open Go Go.Proofs.AM

theorem pos_map {n : Int} (F : Int → Int) (h : ∀ p, F p = n ↔ p = n) : ∀ l : List Int, pos n (l.map F) = pos n l
  | [] => rfl
  | x :: l => by
    rw [List.map_cons, pos, pos, pos_map F h l]
    by_cases e : x = n
    · rw [if_pos e, if_pos ((h x).2 e)]
    · rw [if_neg e, if_neg (fun g => e ((h x).1 g))]

theorem loc_fgc {n : Int} (c : Int → Bool) (h0 : 0 ≤ n) (hc : c n = false) : ∀ G : List Log, loc n (G.map (fgc c)) = loc n G
  | [] => rfl
  | g :: G => by
    rw [List.map_cons, loc, loc, loc_fgc c h0 hc G]
    have : pos n (fgc c g).2 = pos n g.2 := pos_map _ (fun p => by
      by_cases e : c p = true
      · simp only [e, if_true]
        exact ⟨fun g => by omega, fun g => by subst g; rw [hc] at e; simp at e⟩
      · simp only [if_neg e]) g.2
    rw [this]; rfl

theorem loc_gone {n : Int} (c : Int → Bool) (h0 : 0 ≤ n) (hc : c n = true) (G : List Log) : loc n (G.map (fgc c)) = none := by
  rw [loc_none]
  intro g hg hn
  obtain ⟨g', hg', rfl⟩ := List.mem_map.1 hg
  obtain ⟨p, hp, e⟩ := List.mem_map.1 hn
  by_cases h : c p = true
  · rw [if_pos h] at e; omega
  · rw [if_neg h] at e; subst e; exact h hc

theorem pos_app_none {n v : Int} (h : v ≠ n) : ∀ l : List Int, pos n (l ++ [v]) = pos n l
  | [] => by simp [pos, h]
  | x :: l => by rw [List.cons_append, pos, pos, pos_app_none h l]

theorem pos_app_some {n : Int} : ∀ l : List Int, n ∉ l → pos n (l ++ [n]) = some l.length
  | [], _ => by simp [pos]
  | x :: l, h => by
    rw [List.mem_cons, not_or] at h
    rw [List.cons_append, pos, if_neg (fun e => h.1 e.symm), pos_app_some l h.2]; rfl

theorem loc_addLast {n v : Int} (h : v ≠ n) (A : List Log) (g : Log) : loc n (addLast (A ++ [g]) v) = loc n (A ++ [g]) := by
  rw [addLast_snoc, loc_app, loc_app]
  simp only [loc]
  rw [pos_app_none h]

theorem loc_addLast_self {n : Int} (A : List Log) (g : Log) (h : loc n (A ++ [g]) = none) : loc n (addLast (A ++ [g]) n) = some (g.1, (g.2.length : Int)) := by
  rw [loc_none] at h
  rw [addLast_snoc, loc_app, loc_none.2 (fun x hx => h x (by simp [hx]))]
  simp only [loc]
  rw [pos_app_some _ (h g (by simp))]; rfl

section
variable {P L K : Int} {D : List Int} {H : List Bool} {S : Int × (Int × Int)} {G : List Log}

theorem good_openSeq (h : Good P L K D H S G) {ph b : Int} (hS : S.1 < 0) (h0 : 0 ≤ b) (h1 : b < L) (hf : fresh D S G ph) : Good P L K D H (ph, (b, 0)) G := by
  obtain ⟨p1, p2, p3, p4, p5, p6⟩ := h.li.sh
  refine ⟨⟨h.li.sh, h.li.dl, h.li.hl, h.li.gl, h.li.lg, .inr ⟨hf.1, hf.2.1, h0, h1, by simp, by simp only; omega⟩⟩, h.d1, h.hd, ?_, h.np⟩
  have hb := h.nb
  have hn := hf.2.2
  unfold blocks at hn
  rw [List.cons_append, posi_cons, if_neg (by omega)] at hb hn
  rw [List.cons_append, posi_cons, if_pos hf.1]
  exact List.nodup_cons.2 ⟨hn, hb⟩

theorem getD_app_left {A : Type} {l m : List A} {i : Nat} {z : A} (h : i < l.length) : (l ++ m).getD i z = l.getD i z := by
  simp only [List.getD_eq_getElem?_getD, List.getElem?_append_left h]

theorem getD_app_last {A : Type} {l : List A} {x z : A} : (l ++ [x]).getD l.length z = x := by simp

theorem good_openRand (h : Good P L K D H S G) {ph : Int} (hK : (G.length : Int) < K) (hr : room P G = false) (hf : fresh D S G ph) : Good P L K D H S (G ++ [(ph, [])]) := by
  obtain ⟨p1, p2, p3, p4, p5, p6⟩ := h.li.sh
  refine ⟨⟨h.li.sh, h.li.dl, h.li.hl, by simp; omega, fun i hi => ?_, h.li.sq⟩, h.d1, h.hd, ?_, by simpa using h.np⟩
  · simp only [List.length_append, List.length_singleton] at hi ⊢
    by_cases e : i < G.length
    · rw [getD_app_left e]
      have k := h.li.lg i e
      refine ⟨k.p0, k.p1, k.le, fun h2 => ?_, k.pg⟩
      by_cases e2 : i + 1 < G.length
      · exact k.eq e2
      · have e3 : i = G.length - 1 := by omega
        unfold room at hr
        simp only [decide_eq_false_iff_not, not_and, Int.not_lt] at hr
        have := hr (by omega)
        rw [← e3] at this
        have := k.le
        omega
    · have e3 : i = G.length := by omega
      subst e3
      rw [getD_app_last]
      exact ⟨hf.1, hf.2.1, by simp only [List.length_nil]; omega, fun h2 => by omega, fun j hj => by simp at hj⟩
  · have hb := h.nb
    have hn := hf.2.2
    unfold blocks at hn
    rw [List.map_append, ← List.append_assoc]
    exact (nodup_pos hf.1).2 ⟨hb, hn⟩

theorem flatMap_fgc (c : Int → Bool) : ∀ G : List Log, (G.map (fgc c)).flatMap (·.2) = (G.flatMap (·.2)).map (fun p => if c p = true then -1 else p)
  | [] => rfl
  | g :: G => by
    rw [List.map_cons, List.flatMap_cons, List.flatMap_cons, List.map_append, flatMap_fgc c G]; rfl

theorem posi_map_sub (c : Int → Bool) : ∀ l : List Int, (posi (l.map (fun p => if c p = true then -1 else p))).Sublist (posi l)
  | [] => List.Sublist.refl _
  | x :: l => by
    rw [List.map_cons, posi_cons, posi_cons]
    have ih := posi_map_sub c l
    by_cases h : c x = true
    · rw [if_pos h, if_neg (by simp)]
      split
      · exact List.Sublist.cons _ ih
      · exact ih
    · rw [if_neg h]
      split
      · exact List.Sublist.cons_cons _ ih
      · exact ih

theorem getD_map {A B : Type} (F : A → B) {l : List A} {j : Nat} {z : B} {y : A} (h : j < l.length) : (l.map F).getD j z = F (l.getD j y) := by
  simp only [List.getD_eq_getElem?_getD, List.getElem?_map, List.getElem?_eq_getElem h, Option.map_some, Option.getD_some]

theorem good_forget (c : Int → Bool) (h : Good P L K D H S G) : Good P L K D H S (G.map (fgc c)) := by
  have hm := shape_mul h.li.sh
  have hfst : (G.map (fgc c)).map (·.1) = G.map (·.1) := by rw [List.map_map]; rfl
  refine ⟨⟨h.li.sh, h.li.dl, h.li.hl, by simpa using h.li.gl, fun i hi => ?_, h.li.sq⟩, h.d1, h.hd, by rw [hfst]; exact h.nb, ?_⟩
  · rw [List.length_map] at hi ⊢
    have k := h.li.lg i hi
    have e : (G.map (fgc c)).getD i (0, []) = fgc c (G.getD i (0, [])) := by
      simp only [List.getD_eq_getElem?_getD, List.getElem?_map, List.getElem?_eq_getElem hi, Option.map_some, Option.getD_some]
    rw [e]
    refine ⟨k.p0, k.p1, by simpa [fgc] using k.le, fun h2 => by simpa [fgc] using k.eq h2, fun j hj => ?_⟩
    have hj' : j < (G.getD i (0, [])).2.length := by simpa [fgc] using hj
    have hp := k.pg j hj'
    have e2 : (fgc c (G.getD i (0, []))).2.getD j 0 = if c ((G.getD i (0, [])).2.getD j 0) = true then -1 else (G.getD i (0, [])).2.getD j 0 := by
      exact getD_map _ hj'
    rw [e2]
    split
    · omega
    · exact hp
  · rw [flatMap_fgc]
    exact (posi_map_sub c _).nodup h.np

theorem good_putSeq (h : Good P L K D H S G) (hS : 0 ≤ S.1) (hu : S.2.2 < P) : Good P L K D H (S.1, (S.2.1, S.2.2 + 1)) G := by
  refine ⟨⟨h.li.sh, h.li.dl, h.li.hl, h.li.gl, h.li.lg, ?_⟩, h.d1, h.hd, h.nb, h.np⟩
  rcases h.li.sq with e | e
  · rw [e] at hS; simp at hS
  · exact .inr ⟨e.1, e.2.1, e.2.2.1, e.2.2.2.1, by simp only; omega, by simp only; omega⟩

theorem good_addLast {A : List Log} {g : Log} (h : Good P L K D H S (A ++ [g])) (hr : room P (A ++ [g]) = true) {v : Int} (h0 : -1 ≤ v) (h1 : v < P * L) (hn : 0 ≤ v → loc v (A ++ [g]) = none) : Good P L K D H S (addLast (A ++ [g]) v) := by
  have hle : (g.2.length : Int) < P := by
    unfold room at hr
    simp only [decide_eq_true_eq] at hr
    have e : (A ++ [g]).length - 1 = A.length := by simp
    rw [e, getD_app_last] at hr
    exact hr.2
  rw [addLast_snoc]
  have hl1 : (A ++ [g]).length = A.length + 1 := by simp
  have hl2 : (A ++ [(g.1, g.2 ++ [v])]).length = A.length + 1 := by simp
  refine ⟨⟨h.li.sh, h.li.dl, h.li.hl, by rw [hl2, ← hl1]; exact h.li.gl, fun i hi => ?_, h.li.sq⟩, h.d1, h.hd, by have := h.nb; simpa using this, ?_⟩
  · rw [hl2] at hi ⊢
    have k := h.li.lg i (by rw [hl1]; exact hi)
    rw [hl1] at k
    by_cases e : i < A.length
    · rw [getD_app_left e] at k ⊢; exact k
    · obtain rfl : i = A.length := by omega
      rw [getD_app_last] at k ⊢
      refine ⟨k.p0, k.p1, by simp only [List.length_append, List.length_singleton]; omega, fun h2 => by omega, fun j hj => ?_⟩
      simp only [List.length_append, List.length_singleton] at hj
      by_cases e2 : j < g.2.length
      · rw [getD_app_left e2]; exact k.pg j e2
      · obtain rfl : j = g.2.length := by omega
        rw [getD_app_last]; exact ⟨h0, h1⟩
  · have e : (A ++ [(g.1, g.2 ++ [v])]).flatMap (·.2) = (A ++ [g]).flatMap (·.2) ++ [v] := by simp
    rw [e]
    by_cases hv : 0 ≤ v
    · rw [nodup_pos hv]
      refine ⟨h.np, fun hm => ?_⟩
      obtain ⟨x, hx, hvx⟩ := List.mem_flatMap.1 (mem_posi.1 hm).1
      exact loc_none.1 (hn hv) x hx hvx
    · rw [posi_neg (by omega)]; exact h.np

end

section
open Classical
variable (P L K : Int) (D : List Int) (H : List Bool) (S : Int × (Int × Int)) (G : List Log)

end

section
variable {P L K : Int} {D : List Int} {H : List Bool} {S : Int × (Int × Int)} {G : List Log}

end

section
variable {Q : Nat} {L K : Int} {D : List Int} {H : List Bool} {S : Int × (Int × Int)} {G : List Log}

theorem snoc_of {G : List Log} (h : 0 < G.length) : ∃ A g, G = A ++ [g] :=
  ⟨G.dropLast, G.getLast (by intro e; rw [e] at h; simp at h), (List.dropLast_concat_getLast _).symm⟩

theorem room_pos {P : Int} {G : List Log} (h : room P G = true) : 0 < G.length := by
  unfold room at h; simp only [decide_eq_true_eq] at h; exact h.1

theorem put_keeps (h : Good Q L K D H S G) (s : Int × Int) (n : Int) (he : (putS Q L K D H S G s n).2.2.1 = 0) :
    ∃ (S' : Int × (Int × Int)) (G' : List Log) (m : Nat), n = m ∧ m < H.length ∧ (putS Q L K D H S G s n).1 = ((Q : Int), (L, (K, (D, (H, (S', G')))))) ∧ Good Q L K D H S' G' ∧ wh Q D H S' G' m = ((putS Q L K D H S G s n).2.1, (true, ())) ∧ ∀ k : Nat, k < H.length → k ≠ m → wh Q D H S G k = wh Q D H S' G' k := by
  unfold putS at he ⊢
  rw [if_neg (Classical.not_not.2 h)] at he ⊢
  by_cases hr : 0 ≤ n ∧ n < H.length
  rotate_left
  · rw [if_pos hr] at he; simp at he
  rw [if_neg (Classical.not_not.2 hr)] at he ⊢
  obtain ⟨m, rfl⟩ : ∃ m : Nat, n = m := ⟨n.toNat, by omega⟩
  have hG' := good_forget (isn (m : Int)) h
  have hgone : loc (m : Int) (G.map (fgc (isn (m : Int)))) = none := loc_gone _ (by omega) (by simp [isn]) G
  have hsame : ∀ k : Nat, k ≠ m → loc (k : Int) (G.map (fgc (isn (m : Int)))) = loc (k : Int) G := fun k hk => loc_fgc _ (by omega) (by simp [isn]; omega) G
  have hlen : (G.map (fgc (isn (m : Int)))).length = G.length := List.length_map ..
  have hrm := room_fgc Q (isn (m : Int)) G
  have hQ := h.li.sh.1
  simp only [div_mod.1, div_mod.2] at he ⊢
  by_cases c1 : s.1 = 1 ∧ 0 ≤ S.1 ∧ S.2.1 = ((m / Q : Nat) : Int) ∧ S.2.2 = ((m % Q : Nat) : Int)
  · rw [if_pos c1] at he ⊢
    obtain ⟨e1, e2, e3, e4⟩ := c1
    have hmod : m % Q < Q := Nat.mod_lt _ (by omega)
    refine ⟨_, _, m, rfl, by omega, rfl, good_putSeq hG' e2 (by rw [e4]; omega), ?_, fun k hk hne => ?_⟩
    · unfold wh
      rw [hgone]
      simp only
      rw [if_pos ⟨e2, e3, by rw [e4]; omega⟩, e4]
    · unfold wh
      rw [hsame k hne]
      cases loc (k : Int) G with
      | some p => rfl
      | none =>
        simp only
        by_cases c : 0 ≤ S.1 ∧ S.2.1 = ((k / Q : Nat) : Int) ∧ ((k % Q : Nat) : Int) < S.2.2
        · rw [if_pos c, if_pos ⟨c.1, c.2.1, by omega⟩]
        · have c' : ¬ (0 ≤ S.1 ∧ S.2.1 = ((k / Q : Nat) : Int) ∧ ((k % Q : Nat) : Int) < S.2.2 + 1) := ?_
          · rw [if_neg c, if_neg c']
          rintro ⟨g1, g2, g3⟩
          refine c ⟨g1, g2, ?_⟩
          by_cases e : k % Q = m % Q
          · have e5 : k / Q = m / Q := by omega
            exact absurd (by rw [← Nat.div_add_mod k Q, ← Nat.div_add_mod m Q, e, e5]) hne
          · omega
  rw [if_neg c1] at he ⊢
  by_cases c2 : s.1 = 2 ∧ room Q G = true
  · rw [if_pos c2] at he ⊢
    obtain ⟨A, g, hAg⟩ := snoc_of (by rw [hlen]; exact room_pos c2.2 : 0 < (G.map (fgc (isn (m : Int)))).length)
    have hl2 : G.length - 1 = A.length := by rw [← hlen, hAg]; simp
    rw [hAg] at hgone hG' hrm hsame
    simp only [hAg, hl2]
    have hlt : (m : Int) < Q * L := by have := h.li.hl; omega
    refine ⟨_, _, m, rfl, by omega, rfl, good_addLast hG' (by rw [hrm]; exact c2.2) (by omega) hlt (fun _ => hgone), ?_, fun k hk hne => ?_⟩
    · unfold wh
      rw [loc_addLast_self A g hgone]
      simp only
      rw [addLast_snoc]
      have e4 : ith (A := Int) (ki := .int .i64) (A ++ [(g.1, g.2 ++ [(m : Int)])]) A.length = g.2 ++ [(m : Int)] := ith_mid A [] _
      have e5 : hth (kh := .int .i64) (ki := .int .i64) (A ++ [(g.1, g.2 ++ [(m : Int)])]) A.length = g.1 := hth_mid A [] _
      rw [e4, e5]
      have e6 : (g.2 ++ [(m : Int)]).length = g.2.length + 1 := by simp
      rw [e6, show ((g.2.length + 1 : Nat) : Int) - 1 = (g.2.length : Int) by omega]
    · unfold wh
      rw [loc_addLast (by omega) A g, hsame k hne]
  · rw [if_neg c2] at he; simp at he

theorem skip_keeps (h : Good Q L K D H S G) (s : Int × Int) (he : (skipS Q L K D H S G s).2.1 = 0) :
    ∃ S' G', (skipS Q L K D H S G s).1 = ((Q : Int), (L, (K, (D, (H, (S', G')))))) ∧ Good Q L K D H S' G' ∧ ∀ n : Nat, n < H.length → wh Q D H S G n = wh Q D H S' G' n := by
  unfold skipS at he ⊢
  rw [if_neg (Classical.not_not.2 h)] at he ⊢
  by_cases c : s.1 = 2 ∧ room Q G = true
  · rw [if_pos c] at he ⊢
    obtain ⟨A, g, hAg⟩ := snoc_of (room_pos c.2)
    subst hAg
    have hm := shape_mul h.li.sh
    refine ⟨_, _, rfl, good_addLast h c.2 (by omega) (by omega) (fun h => by omega), fun n hn => ?_⟩
    unfold wh
    rw [loc_addLast (by omega) A g]
  · rw [if_neg c] at he; simp at he

end

theorem live_ok : m10 () = some (true, ()) := by
  have sh : shape 4 2 1 := ⟨by omega, by omega, by omega, by omega, by omega, by omega⟩
  have g0 : Good 4 2 1 [-1, -1] [false, false, false, false, false, false, false, false] (-1, (0, 0)) [] := newT_good sh
  have e0 : newT 4 2 1 = (4, (2, (1, ([-1, -1], ([false, false, false, false, false, false, false, false], ((-1, (0, 0)), [])))))) := rfl
  have w : wantS 4 2 1 [-1, -1] [false, false, false, false, false, false, false, false] (-1, (0, 0)) [] 0 = ((3, 0), (0, ())) := by
    unfold wantS seqW
    rw [if_neg (Classical.not_not.2 g0), if_neg (by simp), if_pos (by rfl), if_pos (by simp)]; rfl
  have f : fresh [-1, -1] (-1, (0, 0)) [] 7 := ⟨by omega, by omega, by simp [blocks, posi]⟩
  have o : openS 4 2 1 [-1, -1] [false, false, false, false, false, false, false, false] (-1, (0, 0)) [] (3, 0) 7 = ((4, (2, (1, ([-1, -1], ([false, false, false, false, false, false, false, false], ((7, (0, 0)), [])))))), (0, ())) := by
    unfold openS
    rw [if_neg (Classical.not_not.2 g0), if_neg (Classical.not_not.2 f), if_pos (by simp)]
  have g1 : Good 4 2 1 [-1, -1] [false, false, false, false, false, false, false, false] (7, (0, 0)) [] := good_openSeq g0 (by simp) (by omega) (by omega) f
  have p : putS 4 2 1 [-1, -1] [false, false, false, false, false, false, false, false] (7, (0, 0)) [] (1, 0) 0 = ((4, (2, (1, ([-1, -1], ([false, false, false, false, false, false, false, false], ((7, (0, 1)), [])))))), ((7, 0), (0, ()))) := by
    unfold putS
    rw [if_neg (Classical.not_not.2 g1), if_neg (by simp), if_pos (by simp)]; rfl
  have g2 : Good ((4 : Nat) : Int) 2 1 [-1, -1] [false, false, false, false, false, false, false, false] (7, (0, 1)) [] := good_putSeq g1 (by simp) (by simp)
  have v := m22_good g2 0 (by simp)
  have v' : m22 (((4 : Int), ((2 : Int), ((1 : Int), ([-1, -1], ([false, false, false, false, false, false, false, false], ((7, (0, 1)), [])))))), ((0 : Int), ())) = some ((7, 0), (true, ())) := by
    refine Eq.trans v ?_
    unfold wh
    rw [show loc ((0 : Nat) : Int) [] = none from rfl]
    simp
  unfold m10
  rw [m30_yes sh]
  simp only [Option.bind_some, e0]
  rw [m13_spec, w]
  simp only [Option.bind_some]
  rw [m15_spec, o]
  simp only [Option.bind_some]
  rw [m18_spec, p]
  simp only [Option.bind_some]
  rw [v']
  rfl
end Go.Proofs.Ytecadglgkhfaaaa
end

section
namespace Go.Proofs.Ytecadglgkhfaaaa
open Go Go.Proofs.AM

theorem m11_ok (P L K : Int) (D : List Int) (H : List Bool) (S : Int × (Int × Int)) (G : List Log) : m11 ((P, (L, (K, (D, (H, (S, G)))))), ()) = some (decide ((D.length : Int) ≤ 64 ∧ (H.length : Int) ≤ 1024 ∧ (G.length : Int) ≤ 12), ()) := by
  unfold m11
  by_cases a : (D.length : Int) ≤ 64 <;> by_cases b : (H.length : Int) ≤ 1024 <;> simp [a, b]

theorem same_good {P L K : Int} {D : List Int} {H : List Bool} {S : Int × (Int × Int)} {G : List Log} (h : Good P L K D H S G) : m17 ((P, (L, (K, (D, (H, (S, G)))))), ((P, (L, (K, (D, (H, (S, G)))))), ())) = some (true, ()) := by
  obtain ⟨s1, s2, s3, s4⟩ := h.sz
  exact m17_same _ _ _ _ _ _ _ (by omega) (by omega) (by omega) (fun i hi => by have := s4 i hi; omega)

theorem same_zero : m17 (zeroT, (zeroT, ())) = some (true, ()) :=
  m17_same _ _ _ _ _ _ _ (by simp) (by simp) (by simp) (fun i hi => by simp at hi)

section
variable {P L K : Int} {D : List Int} {H : List Bool} {S : Int × (Int × Int)} {G : List Log}

theorem open_same (s : Int × Int) (ph : Int) : m17 ((openS P L K D H S G s ph).1, ((openS P L K D H S G s ph).1, ())) = some (true, ()) := by
  unfold openS
  by_cases h : Good P L K D H S G
  rotate_left
  · rw [if_pos h]; exact same_zero
  rw [if_neg (Classical.not_not.2 h)]
  by_cases hf : fresh D S G ph
  rotate_left
  · rw [if_pos hf]; exact same_zero
  rw [if_neg (Classical.not_not.2 hf)]
  by_cases c1 : s.1 = 3 ∧ S.1 < 0 ∧ 0 ≤ s.2 ∧ s.2 < L
  · rw [if_pos c1]; exact same_good (good_openSeq h c1.2.1 c1.2.2.1 c1.2.2.2 hf)
  rw [if_neg c1]
  by_cases c2 : s.1 = 4 ∧ (G.length : Int) < K ∧ room P G = false
  · rw [if_pos c2]; exact same_good (good_openRand h c2.2.1 c2.2.2 hf)
  · rw [if_neg c2]; exact same_zero

theorem put_same (s : Int × Int) (n : Int) : m17 ((putS P L K D H S G s n).1, ((putS P L K D H S G s n).1, ())) = some (true, ()) := by
  by_cases h : Good P L K D H S G
  rotate_left
  · unfold putS; rw [if_pos h]; exact same_zero
  obtain ⟨Q, rfl⟩ : ∃ Q : Nat, P = Q := ⟨P.toNat, by have := h.li.sh.1; omega⟩
  by_cases e : (putS Q L K D H S G s n).2.2.1 = 0
  · obtain ⟨S', G', m, _, _, e1, g, _⟩ := put_keeps h s n e
    rw [e1]; exact same_good g
  · unfold putS at e ⊢
    rw [if_neg (Classical.not_not.2 h)] at e ⊢
    split
    · exact same_zero
    · rename_i h1
      rw [if_neg h1] at e
      split
      · rename_i h2
        rw [if_pos h2] at e; simp at e
      · rename_i h2
        rw [if_neg h2] at e
        split
        · rename_i h3
          rw [if_pos h3] at e; simp at e
        · exact same_zero

theorem skip_same (s : Int × Int) : m17 ((skipS P L K D H S G s).1, ((skipS P L K D H S G s).1, ())) = some (true, ()) := by
  by_cases h : Good P L K D H S G
  rotate_left
  · unfold skipS; rw [if_pos h]; exact same_zero
  obtain ⟨Q, rfl⟩ : ∃ Q : Nat, P = Q := ⟨P.toNat, by have := h.li.sh.1; omega⟩
  by_cases e : (skipS Q L K D H S G s).2.1 = 0
  · obtain ⟨S', G', e1, g, _⟩ := skip_keeps h s e
    rw [e1]; exact same_good g
  · unfold skipS at e ⊢
    rw [if_neg (Classical.not_not.2 h)] at e ⊢
    split
    · rename_i h1
      rw [if_pos h1] at e; simp at e
    · exact same_zero
end

theorem steps (P L K : Int) (D : List Int) (H : List Bool) (S : Int × (Int × Int)) (G : List Log) (s : Int × Int) (n : Int) (hg : ∀ i, i < G.length → (G.getD i (0, [])).2.length * 8 ≤ 140737488355328) : m3 ((P, (L, (K, (D, (H, (S, G)))))), (s, (n, ()))) = some (true, ()) := by
  unfold m3
  rw [live_ok, m11_ok]
  simp only [Option.bind_some, Bool.not_true, cond_false]
  by_cases hs : (D.length : Int) ≤ 64 ∧ (H.length : Int) ≤ 1024 ∧ (G.length : Int) ≤ 12
  rotate_left
  · rw [decide_eq_false hs]; rfl
  rw [decide_eq_true hs]
  obtain ⟨h1, h2, h3⟩ := hs
  rw [clr_eq P L K D H S G (by omega) hg, m13_spec, m14_spec, m15_spec, m16_spec, m18_spec, m19_spec, m20_spec, m21_spec]
  simp only [Option.bind_some, Bool.not_true, cond_false, List.length_nil, Nat.zero_add]
  rw [gd_pos (by omega), gd_pos (by omega), gd_pos (by omega), gd_pos (by omega), open_same, put_same, skip_same]
  have e : m17 ((P, (L, (K, (D, (H, (S, G)))))), ((P, (L, (K, (D, (H, ((S.1, (S.2.1, S.2.2)), G)))))), ())) = some (true, ()) := m17_same P L K D H S G (by omega) (by omega) (by omega) (fun i hi => by have := hg i hi; omega)
  rw [e]
  simp

theorem PlanSteps_pure : ∀ x : AM.PDen [(true, kT), (true, (.pair (.int .i64) (.int .i64))), (false, (.int .i64))], AM.PWf _ x → AM.PSz _ x → m3 x = some (true, ()) := by
  rintro ⟨⟨P, L, K, D, H, S, G⟩, s, n, ⟨⟩⟩ _ hz
  refine steps P L K D H S G s n fun i hi => ?_
  have hG := hz.1.2.2.2.2.2.2.2
  have hm : G.getD i (0, []) ∈ G := getD_mem hi
  have h := (hG _ hm).2.1
  have h : (G.getD i (0, [])).2.length * 8 ≤ 140737488351232 := h
  omega
end Go.Proofs.Ytecadglgkhfaaaa
end
