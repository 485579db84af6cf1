/- What the functions of this claim compute, each shown by the kernel, and what that comes to, with no program in sight. No condition. -/
import Derived.Test.YtecadglgkhfaaaaCa
set_option maxRecDepth 2000
set_option linter.unusedVariables false
set_option linter.unusedSimpArgs false
section
namespace Go.Proofs.Ytecadglgkhfaaaa
open Go Go.Proofs.AM

def ovr (P : Int) (S : Int × (Int × Int)) (G : List Log) : Prop := ∃ g ∈ G, ∃ p ∈ g.2, 0 ≤ p ∧ Int.tdiv p P = S.2.1 ∧ Int.tmod p P < S.2.2

section
variable {P L K : Int} {D : List Int} {H : List Bool} {S : Int × (Int × Int)} {G : List Log}

theorem getD_cons_drop {A : Type} {l : List A} {i : Nat} {z : A} (h : i < l.length) : l.drop i = l.getD i z :: l.drop (i + 1) := by
  rw [List.getD_eq_getElem?_getD, List.getElem?_eq_getElem h, Option.getD_some, List.drop_eq_getElem_cons h]

theorem div_lt {p Q : Nat} (h : p < 100000) : p / Q < 100000 := Nat.lt_of_le_of_lt (Nat.div_le_self _ _) h

theorem tdiv_ok {p P : Int} (h0 : 0 ≤ p) (h1 : p < 8192) (hP : 4 ≤ P) : IntKind.wrap .i64 (Int.tdiv p P) = Int.tdiv p P := by
  obtain ⟨N, rfl⟩ : ∃ N : Nat, p = N := ⟨p.toNat, by omega⟩
  obtain ⟨Q, rfl⟩ : ∃ Q : Nat, P = Q := ⟨P.toNat, by omega⟩
  have hd := div_lt (p := N) (Q := Q) (by omega)
  rw [div_mod.1]
  obtain ⟨b, hb⟩ : ∃ b, N / Q = b := ⟨_, rfl⟩
  rw [hb] at hd ⊢
  rw [wrap64 (by omega) (by omega)]

theorem Good.pages (h : Good P L K D H S G) : ∀ g ∈ G, ∀ p ∈ g.2, -1 ≤ p ∧ p < 8192 := fun g hg p hp => by
  have hm := shape_mul h.li.sh
  obtain ⟨i, hi, e⟩ := List.getElem_of_mem hg
  have := (h.li.lg i hi).pg
  rw [List.getD_eq_getElem?_getD, List.getElem?_eq_getElem hi] at this
  simp only [Option.getD_some] at this
  rw [e] at this
  obtain ⟨j, hj, e2⟩ := List.getElem_of_mem hp
  have := this j hj
  rw [List.getD_eq_getElem?_getD, List.getElem?_eq_getElem hj] at this
  simp only [Option.getD_some] at this
  rw [e2] at this
  omega

theorem m62_ok (h : Good P L K D H S G) : Ok (m62 ((P, (L, (K, (D, (H, (S, G)))))), ())) (fun r => r.1 = true ↔ ovr P S G) := by
  obtain ⟨s1, s2, s3, s4⟩ := h.sz
  have hpg := h.pages
  have hel := h.el
  have hP := h.li.sh.1
  unfold m62
  refine Ok.bind (S := fun e => match e with | .inl _ => ¬ ovr P S G | .inr v => v = true ∧ ovr P S G) (Ok.loop G.length (fun i x => x = (i : Int) ∧ ∀ g ∈ G.take i, ∀ p ∈ g.2, ¬ (0 ≤ p ∧ Int.tdiv p P = S.2.1 ∧ Int.tmod p P < S.2.2)) ⟨rfl, fun g hg => by simp at hg⟩ ?_) fun y hy => ?_
  · rintro i x hi ⟨rfl, hq0⟩
    refine Ok.cond (fun hc => ?_) (fun hc => Ok.inr ?_)
    rotate_left
    · simp only at hc
      rw [List.take_of_length_le (by omega)] at hq0
      exact fun ⟨g, hg, p, hp, e⟩ => hq0 g hg p hp e
    simp only [Int.toNat_natCast] at hc ⊢
    have hi' : i < G.length := by omega
    rw [wrap64 (n := (i : Int) + 1) (by omega) (by omega)]
    refine Ok.gd (by omega) (Ok.gd (by omega) ?_)
    obtain ⟨g, hgd⟩ : ∃ g, g = G.getD i (0, []) := ⟨_, rfl⟩
    have hgm : g ∈ G := hgd ▸ getD_mem hi'
    have hgl := hel g hgm
    have hgp := hpg g hgm
    have htk : G.take (i + 1) = G.take i ++ [g] := hgd ▸ take_snoc G i hi' (0, [])
    simp only [← hgd]
    refine Ok.bind (S := fun e => match e with | .inl _ => ∀ p ∈ g.2, ¬ (0 ≤ p ∧ Int.tdiv p P = S.2.1 ∧ Int.tmod p P < S.2.2) | .inr v => v = true ∧ ovr P S G) (Ok.loop g.2.length (fun j x => x = (j : Int) ∧ ∀ p ∈ g.2.take j, ¬ (0 ≤ p ∧ Int.tdiv p P = S.2.1 ∧ Int.tmod p P < S.2.2)) ⟨rfl, fun p hp => by simp at hp⟩ ?_) fun y hy => ?_
    · rintro j x hj ⟨rfl, hr⟩
      refine Ok.cond (fun hc => ?_) (fun hc => Ok.inr ?_)
      rotate_left
      · rw [List.take_of_length_le (by omega)] at hr
        exact hr
      simp only [Int.toNat_natCast] at hc ⊢
      have hj' : j < g.2.length := by omega
      rw [wrap64 (n := (j : Int) + 1) (by omega) (by omega)]
      refine Ok.gd (by omega) (Ok.gd (by omega) ?_)
      obtain ⟨p, hpd⟩ : ∃ p, p = g.2.getD j 0 := ⟨_, rfl⟩
      have hpm : p ∈ g.2 := hpd ▸ getD_mem hj'
      have hpb := hgp p hpm
      have htk2 : g.2.take (j + 1) = g.2.take j ++ [p] := hpd ▸ take_snoc g.2 j hj' 0
      simp only [← hpd]
      have go : ¬ (0 ≤ p ∧ Int.tdiv p P = S.2.1 ∧ Int.tmod p P < S.2.2) → j < g.2.length ∧ ((j : Int) + 1 = ((j + 1 : Nat) : Int) ∧ ∀ p ∈ g.2.take (j + 1), ¬ (0 ≤ p ∧ Int.tdiv p P = S.2.1 ∧ Int.tmod p P < S.2.2)) := fun hn => by
        refine ⟨hj', by omega, fun q hq => ?_⟩
        rw [htk2] at hq
        rcases List.mem_append.1 hq with hq | hq
        · exact hr q hq
        · simp only [List.mem_singleton] at hq; subst hq; exact hn
      refine Ok.cond (fun a => ?_) (fun a => Ok.inl (go fun k => a k.1))
      rw [tdiv_ok a hpb.2 hP]
      refine Ok.ite (fun e => by omega) (fun _ => ?_)
      refine Ok.cond (fun b => ?_) (fun b => Ok.inl (go fun k => b k.2.1))
      refine Ok.ite (fun e => by omega) (fun _ => ?_)
      refine Ok.cond (fun c => Ok.inr ⟨rfl, g, hgm, _, hpm, a, b, c⟩) (fun c => Ok.inl (go fun k => c k.2.2))
    · refine Ok.elim (fun v e => ?_) (fun v e => ?_)
      · subst e
        refine Ok.inl ⟨hi', by omega, fun q hq => ?_⟩
        rw [htk] at hq
        rcases List.mem_append.1 hq with hq | hq
        · exact hq0 q hq
        · simp only [List.mem_singleton] at hq; subst hq; exact hy
      · subst e; exact Ok.inr hy
  · refine Ok.elim (fun v e => ?_) (fun v e => ?_)
    · subst e; exact Ok.some ⟨fun h => by simp at h, fun h => absurd h hy⟩
    · subst e; exact Ok.some ⟨fun _ => hy.2, fun _ => hy.1⟩

theorem loc_none {n : Int} : ∀ {G : List Log}, loc n G = none ↔ ∀ g ∈ G, n ∉ g.2
  | [] => by simp [loc]
  | g :: G => by
    rw [loc]
    cases h : pos n g.2 with
    | none =>
      simp only [List.mem_cons, forall_eq_or_imp]
      rw [loc_none]
      exact ⟨fun k => ⟨pos_none.1 h, k⟩, fun k => k.2⟩
    | some k =>
      simp only [List.mem_cons, forall_eq_or_imp]
      refine ⟨fun g => by simp at g, fun g => ?_⟩
      rw [pos_none.2 g.1] at h; simp at h

end

def fstp : List Int → Option Int
  | [] => none
  | p :: l => if 0 ≤ p then some p else fstp l

def randW (P K : Int) (G : List Log) : Int × Int :=
  if room P G = true then (2, 0) else if (G.length : Int) < K then (4, 0) else match fstp (G.getD 0 (0, [])).2 with
    | some p => (8, Int.tdiv p P)
    | none => (9, 0)

section
open Classical
variable (P L K : Int) (D : List Int) (H : List Bool) (S : Int × (Int × Int)) (G : List Log)

noncomputable def seqW (b : Int) : Int × Int :=
  if S.1 < 0 then (3, b) else if S.2.1 = b ∧ S.2.2 = 0 then (1, b) else if ovr P S G then (7, S.2.1) else if S.2.2 < P then (6, S.2.1) else (5, S.2.1)

noncomputable def wantS (n : Int) : (Int × Int) × (Int × Unit) :=
  if ¬ Good P L K D H S G then ((0, 0), (50, ()))
  else if ¬ (0 ≤ n ∧ n < H.length) then ((0, 0), (1, ()))
  else if Int.tmod n P = 0 then (seqW P S G (Int.tdiv n P), (0, ()))
  else if 0 ≤ S.1 ∧ S.2.1 = Int.tdiv n P ∧ S.2.2 = Int.tmod n P then ((1, Int.tdiv n P), (0, ()))
  else (randW P K G, (0, ()))
end

section
variable {P L K : Int} {D : List Int} {H : List Bool} {S : Int × (Int × Int)} {G : List Log}

open Classical in
theorem m41_spec (h : Good P L K D H S G) (b : Int) : m41 ((P, (L, (K, (D, (H, (S, G)))))), (b, ())) = some (seqW P S G b, ()) := by
  apply ok_eq
  unfold m41 seqW
  simp only [show decide ((3 : Int) = 5) = false from rfl, show decide ((3 : Int) = 6) = false from rfl, show decide ((3 : Int) = 7) = false from rfl, show decide ((1 : Int) = 5) = false from rfl, show decide ((1 : Int) = 6) = false from rfl, show decide ((1 : Int) = 7) = false from rfl,
    show decide ((7 : Int) = 5) = false from rfl, show decide ((7 : Int) = 6) = false from rfl, show decide ((7 : Int) = 7) = true from rfl, show decide ((6 : Int) = 5) = false from rfl, show decide ((6 : Int) = 6) = true from rfl, show decide ((5 : Int) = 5) = true from rfl, cond_true, cond_false]
  have tail : ¬ S.1 < 0 → ¬ (S.2.1 = b ∧ S.2.2 = 0) → Ok (Option.bind (m62 ((P, (L, (K, (D, (H, (S, G)))))), ())) fun (y1 : (Bool × Unit)) =>
      bif y1.1 then some (((7 : Int), S.2.1), ()) else (bif decide (S.2.2 < P) then some (((6 : Int), S.2.1), ()) else some (((5 : Int), S.2.1), ()))) (fun r => r = (if S.1 < 0 then (3, b) else if S.2.1 = b ∧ S.2.2 = 0 then (1, b) else if ovr P S G then (7, S.2.1) else if S.2.2 < P then (6, S.2.1) else (5, S.2.1), ())) := by
    intro h1 h2
    refine Ok.bind (m62_ok h) fun y hy => ?_
    rw [if_neg h1, if_neg h2]
    refine Ok.condb (fun a => Ok.some ?_) (fun a => ?_)
    · rw [if_pos (hy.1 a)]
    · rw [if_neg (fun g => by rw [hy.2 g] at a; simp at a)]
      refine Ok.cond (fun c => Ok.some ?_) (fun c => Ok.some ?_)
      · rw [if_pos c]
      · rw [if_neg c]
  refine Ok.cond (fun a => Ok.some ?_) (fun a => Ok.cond (fun c => Ok.cond (fun d => Ok.some ?_) (fun d => tail a fun g => d g.2)) (fun c => tail a fun g => c g.1))
  · rw [if_pos a]
  · rw [if_neg a, if_pos ⟨c, d⟩]

theorem fstp_drop {l : List Int} {j : Nat} (hj : j < l.length) : fstp (l.drop j) = if 0 ≤ l.getD j 0 then some (l.getD j 0) else fstp (l.drop (j + 1)) := by
  rw [getD_cons_drop (z := 0) hj]; rfl

theorem m42_spec (h : Good P L K D H S G) : m42 ((P, (L, (K, (D, (H, (S, G)))))), ()) = some (randW P K G, ()) := by
  apply ok_eq
  obtain ⟨s1, s2, s3, s4⟩ := h.sz
  obtain ⟨p1, p2, p3, p4, p5, p6⟩ := h.li.sh
  unfold m42 randW
  rw [m49_eq P L K D H S G (by omega)]
  simp only [Option.bind_some]
  refine Ok.condb (fun a => Ok.some ?_) (fun a => ?_)
  · rw [if_pos a]
  rw [if_neg (fun g => by rw [g] at a; simp at a)]
  refine Ok.cond (fun c => Ok.some ?_) (fun c => ?_)
  · rw [if_pos c]
  rw [if_neg c]
  have hpos : 0 < G.length := by omega
  refine Ok.gd (by omega) ?_
  simp only [Int.toNat_zero]
  obtain ⟨g, hgd⟩ : ∃ g, g = G.getD 0 (0, []) := ⟨_, rfl⟩
  have hgm : g ∈ G := hgd ▸ getD_mem hpos
  have hgl := h.el g hgm
  have hgp := h.pages g hgm
  simp only [← hgd]
  refine Ok.bind (S := fun e => match e with | .inl _ => fstp g.2 = none | .inr v => ∃ p, fstp g.2 = some p ∧ v = (8, Int.tdiv p P)) (Ok.loop g.2.length (fun j x => x.1 = (j : Int) ∧ fstp g.2 = fstp (g.2.drop j)) ⟨rfl, by simp⟩ ?_) fun y hy => ?_
  · rintro j ⟨x1, x2⟩ hj ⟨hx, hr⟩
    simp only at hx hr
    subst hx
    refine Ok.cond (fun hc => ?_) (fun hc => Ok.inr (by simp only at hc; rw [hr, List.drop_of_length_le (by omega)]; rfl))
    simp only [Int.toNat_natCast] at hc ⊢
    have hj' : j < g.2.length := by omega
    rw [wrap64 (n := (j : Int) + 1) (by omega) (by omega)]
    rw [fstp_drop hj'] at hr
    have hb := hgp _ (getD_mem (z := 0) hj')
    refine Ok.gd (by omega) (Ok.gd (by omega) ?_)
    refine Ok.cond (fun a => Ok.ite (fun e => by omega) (fun _ => Ok.inr ?_)) (fun a => Ok.inl ⟨hj', by simp, ?_⟩)
    · rw [if_pos a] at hr
      exact ⟨_, hr, by rw [tdiv_ok a hb.2 p1]⟩
    · rw [if_neg (by simpa using a)] at hr; exact hr
  · refine Ok.elim (fun v e => ?_) (fun v e => ?_)
    · subst e
      have hy : fstp g.2 = none := hy
      rw [hy]; exact Ok.some rfl
    · subst e
      obtain ⟨p, h1, h2⟩ := hy
      rw [h1]; exact Ok.some (by rw [h2])

theorem m13_spec (n : Int) : m13 ((P, (L, (K, (D, (H, (S, G)))))), (n, ())) = some (wantS P L K D H S G n) := by
  apply ok_eq
  unfold m13 wantS
  by_cases h : Good P L K D H S G
  rotate_left
  · rw [m25_bad h]
    simp only [Option.bind_some]
    refine Ok.ncond (fun _ => Ok.some ?_) (fun h1 => by simp at h1)
    rw [if_pos h]
  rw [m25_good h, if_neg (Classical.not_not.2 h)]
  simp only [Option.bind_some]
  obtain ⟨s1, s2, s3, s4⟩ := h.sz
  obtain ⟨p1, p2, p3, p4, p5, p6⟩ := h.li.sh
  refine Ok.ncond (fun h1 => absurd trivial h1) (fun _ => ?_)
  rw [wrap64 (n := ((H.length : Nat) : Int) - 1) (by omega) (by omega), m40_eq]
  simp only [Option.bind_some]
  refine Ok.ncond (fun h1 => Ok.some ?_) (fun h1 => ?_)
  · rw [if_pos (fun g => h1 (by omega))]
  rw [if_neg (Classical.not_not.2 ⟨h1.1, by omega⟩)]
  refine Ok.ite (fun e => by have e : P = 0 := e; omega) (fun _ => Ok.ite (fun e => by have e : P = 0 := e; omega) (fun _ => ?_))
  rw [tdiv_ok h1.1 (by omega) p1, m41_spec h, m42_spec h]
  simp only [Option.bind_some]
  refine Ok.cond (fun a => Ok.some ?_) (fun a => ?_)
  · rw [if_pos a]
  rw [if_neg a]
  refine Ok.cond (fun b => Ok.cond (fun c => Ok.cond (fun d => Ok.some ?_) (fun d => Ok.some ?_)) (fun c => Ok.some ?_)) (fun b => Ok.some ?_)
  · rw [if_pos ⟨b, c, d⟩]
  · rw [if_neg (fun g => d g.2.2)]
  · rw [if_neg (fun g => c g.2.1)]
  · rw [if_neg (fun g => b g.1)]

end

end Go.Proofs.Ytecadglgkhfaaaa
end

section
namespace Go.Proofs.Ytecadglgkhfaaaa
open Go Go.Proofs.AM

theorem pos_map {n : Int} (F : Int → Int) (h : ∀ p, F p = n ↔ p = n) : ∀ l : List Int, pos n (l.map F) = pos n l
  | [] => rfl
  | x :: l => by
    rw [List.map_cons, pos, pos, pos_map F h l]
    by_cases e : x = n
    · rw [if_pos e, if_pos ((h x).2 e)]
    · rw [if_neg e, if_neg (fun g => e ((h x).1 g))]

theorem loc_fgc {n : Int} (c : Int → Bool) (h0 : 0 ≤ n) (hc : c n = false) : ∀ G : List Log, loc n (G.map (fgc c)) = loc n G
  | [] => rfl
  | g :: G => by
    rw [List.map_cons, loc, loc, loc_fgc c h0 hc G]
    have : pos n (fgc c g).2 = pos n g.2 := pos_map _ (fun p => by
      by_cases e : c p = true
      · simp only [e, if_true]
        exact ⟨fun g => by omega, fun g => by subst g; rw [hc] at e; simp at e⟩
      · simp only [if_neg e]) g.2
    rw [this]; rfl

theorem loc_gone {n : Int} (c : Int → Bool) (h0 : 0 ≤ n) (hc : c n = true) (G : List Log) : loc n (G.map (fgc c)) = none := by
  rw [loc_none]
  intro g hg hn
  obtain ⟨g', hg', rfl⟩ := List.mem_map.1 hg
  obtain ⟨p, hp, e⟩ := List.mem_map.1 hn
  by_cases h : c p = true
  · rw [if_pos h] at e; omega
  · rw [if_neg h] at e; subst e; exact h hc

theorem pos_app_none {n v : Int} (h : v ≠ n) : ∀ l : List Int, pos n (l ++ [v]) = pos n l
  | [] => by simp [pos, h]
  | x :: l => by rw [List.cons_append, pos, pos, pos_app_none h l]

theorem pos_app_some {n : Int} : ∀ l : List Int, n ∉ l → pos n (l ++ [n]) = some l.length
  | [], _ => by simp [pos]
  | x :: l, h => by
    rw [List.mem_cons, not_or] at h
    rw [List.cons_append, pos, if_neg (fun e => h.1 e.symm), pos_app_some l h.2]; rfl

theorem loc_addLast {n v : Int} (h : v ≠ n) (A : List Log) (g : Log) : loc n (addLast (A ++ [g]) v) = loc n (A ++ [g]) := by
  rw [addLast_snoc, loc_app, loc_app]
  simp only [loc]
  rw [pos_app_none h]

theorem loc_addLast_self {n : Int} (A : List Log) (g : Log) (h : loc n (A ++ [g]) = none) : loc n (addLast (A ++ [g]) n) = some (g.1, (g.2.length : Int)) := by
  rw [loc_none] at h
  rw [addLast_snoc, loc_app, loc_none.2 (fun x hx => h x (by simp [hx]))]
  simp only [loc]
  rw [pos_app_some _ (h g (by simp))]; rfl

theorem loc_neg {n : Int} {g : Log} {G : List Log} (h0 : 0 ≤ n) (h : ∀ p ∈ g.2, p < 0) : loc n (g :: G) = loc n G := by
  rw [loc, pos_none.2 (fun hm => by have := h n hm; omega)]

section
variable {P L K : Int} {D : List Int} {H : List Bool} {S : Int × (Int × Int)} {G : List Log}

theorem good_openSeq (h : Good P L K D H S G) {ph b : Int} (hS : S.1 < 0) (h0 : 0 ≤ b) (h1 : b < L) (hf : fresh D S G ph) : Good P L K D H (ph, (b, 0)) G := by
  obtain ⟨p1, p2, p3, p4, p5, p6⟩ := h.li.sh
  refine ⟨⟨h.li.sh, h.li.dl, h.li.hl, h.li.gl, h.li.lg, .inr ⟨hf.1, hf.2.1, h0, h1, by simp, by simp only; omega⟩⟩, h.d1, h.hd, ?_, h.np⟩
  have hb := h.nb
  have hn := hf.2.2
  unfold blocks at hn
  rw [List.cons_append, posi_cons, if_neg (by omega)] at hb hn
  rw [List.cons_append, posi_cons, if_pos hf.1]
  exact List.nodup_cons.2 ⟨hn, hb⟩

theorem getD_app_left {A : Type} {l m : List A} {i : Nat} {z : A} (h : i < l.length) : (l ++ m).getD i z = l.getD i z := by
  simp only [List.getD_eq_getElem?_getD, List.getElem?_append_left h]

theorem getD_app_last {A : Type} {l : List A} {x z : A} : (l ++ [x]).getD l.length z = x := by simp

theorem good_openRand (h : Good P L K D H S G) {ph : Int} (hK : (G.length : Int) < K) (hr : room P G = false) (hf : fresh D S G ph) : Good P L K D H S (G ++ [(ph, [])]) := by
  obtain ⟨p1, p2, p3, p4, p5, p6⟩ := h.li.sh
  refine ⟨⟨h.li.sh, h.li.dl, h.li.hl, by simp; omega, fun i hi => ?_, h.li.sq⟩, h.d1, h.hd, ?_, by simpa using h.np⟩
  · simp only [List.length_append, List.length_singleton] at hi ⊢
    by_cases e : i < G.length
    · rw [getD_app_left e]
      have k := h.li.lg i e
      refine ⟨k.p0, k.p1, k.le, fun h2 => ?_, k.pg⟩
      by_cases e2 : i + 1 < G.length
      · exact k.eq e2
      · have e3 : i = G.length - 1 := by omega
        unfold room at hr
        simp only [decide_eq_false_iff_not, not_and, Int.not_lt] at hr
        have := hr (by omega)
        rw [← e3] at this
        have := k.le
        omega
    · have e3 : i = G.length := by omega
      subst e3
      rw [getD_app_last]
      exact ⟨hf.1, hf.2.1, by simp only [List.length_nil]; omega, fun h2 => by omega, fun j hj => by simp at hj⟩
  · have hb := h.nb
    have hn := hf.2.2
    unfold blocks at hn
    rw [List.map_append, ← List.append_assoc]
    exact (nodup_pos hf.1).2 ⟨hb, hn⟩

theorem flatMap_fgc (c : Int → Bool) : ∀ G : List Log, (G.map (fgc c)).flatMap (·.2) = (G.flatMap (·.2)).map (fun p => if c p = true then -1 else p)
  | [] => rfl
  | g :: G => by
    rw [List.map_cons, List.flatMap_cons, List.flatMap_cons, List.map_append, flatMap_fgc c G]; rfl

theorem posi_map_sub (c : Int → Bool) : ∀ l : List Int, (posi (l.map (fun p => if c p = true then -1 else p))).Sublist (posi l)
  | [] => List.Sublist.refl _
  | x :: l => by
    rw [List.map_cons, posi_cons, posi_cons]
    have ih := posi_map_sub c l
    by_cases h : c x = true
    · rw [if_pos h, if_neg (by simp)]
      split
      · exact List.Sublist.cons _ ih
      · exact ih
    · rw [if_neg h]
      split
      · exact List.Sublist.cons_cons _ ih
      · exact ih

theorem getD_map {A B : Type} (F : A → B) {l : List A} {j : Nat} {z : B} {y : A} (h : j < l.length) : (l.map F).getD j z = F (l.getD j y) := by
  simp only [List.getD_eq_getElem?_getD, List.getElem?_map, List.getElem?_eq_getElem h, Option.map_some, Option.getD_some]

theorem good_forget (c : Int → Bool) (h : Good P L K D H S G) : Good P L K D H S (G.map (fgc c)) := by
  have hm := shape_mul h.li.sh
  have hfst : (G.map (fgc c)).map (·.1) = G.map (·.1) := by rw [List.map_map]; rfl
  refine ⟨⟨h.li.sh, h.li.dl, h.li.hl, by simpa using h.li.gl, fun i hi => ?_, h.li.sq⟩, h.d1, h.hd, by rw [hfst]; exact h.nb, ?_⟩
  · rw [List.length_map] at hi ⊢
    have k := h.li.lg i hi
    have e : (G.map (fgc c)).getD i (0, []) = fgc c (G.getD i (0, [])) := by
      simp only [List.getD_eq_getElem?_getD, List.getElem?_map, List.getElem?_eq_getElem hi, Option.map_some, Option.getD_some]
    rw [e]
    refine ⟨k.p0, k.p1, by simpa [fgc] using k.le, fun h2 => by simpa [fgc] using k.eq h2, fun j hj => ?_⟩
    have hj' : j < (G.getD i (0, [])).2.length := by simpa [fgc] using hj
    have hp := k.pg j hj'
    have e2 : (fgc c (G.getD i (0, []))).2.getD j 0 = if c ((G.getD i (0, [])).2.getD j 0) = true then -1 else (G.getD i (0, [])).2.getD j 0 := by
      exact getD_map _ hj'
    rw [e2]
    split
    · omega
    · exact hp
  · rw [flatMap_fgc]
    exact (posi_map_sub c _).nodup h.np

theorem good_putSeq (h : Good P L K D H S G) (hS : 0 ≤ S.1) (hu : S.2.2 < P) : Good P L K D H (S.1, (S.2.1, S.2.2 + 1)) G := by
  refine ⟨⟨h.li.sh, h.li.dl, h.li.hl, h.li.gl, h.li.lg, ?_⟩, h.d1, h.hd, h.nb, h.np⟩
  rcases h.li.sq with e | e
  · rw [e] at hS; simp at hS
  · exact .inr ⟨e.1, e.2.1, e.2.2.1, e.2.2.2.1, by simp only; omega, by simp only; omega⟩

theorem good_addLast {A : List Log} {g : Log} (h : Good P L K D H S (A ++ [g])) (hr : room P (A ++ [g]) = true) {v : Int} (h0 : -1 ≤ v) (h1 : v < P * L) (hn : 0 ≤ v → loc v (A ++ [g]) = none) : Good P L K D H S (addLast (A ++ [g]) v) := by
  have hle : (g.2.length : Int) < P := by
    unfold room at hr
    simp only [decide_eq_true_eq] at hr
    have e : (A ++ [g]).length - 1 = A.length := by simp
    rw [e, getD_app_last] at hr
    exact hr.2
  rw [addLast_snoc]
  have hl1 : (A ++ [g]).length = A.length + 1 := by simp
  have hl2 : (A ++ [(g.1, g.2 ++ [v])]).length = A.length + 1 := by simp
  refine ⟨⟨h.li.sh, h.li.dl, h.li.hl, by rw [hl2, ← hl1]; exact h.li.gl, fun i hi => ?_, h.li.sq⟩, h.d1, h.hd, by have := h.nb; simpa using this, ?_⟩
  · rw [hl2] at hi ⊢
    have k := h.li.lg i (by rw [hl1]; exact hi)
    rw [hl1] at k
    by_cases e : i < A.length
    · rw [getD_app_left e] at k ⊢; exact k
    · obtain rfl : i = A.length := by omega
      rw [getD_app_last] at k ⊢
      refine ⟨k.p0, k.p1, by simp only [List.length_append, List.length_singleton]; omega, fun h2 => by omega, fun j hj => ?_⟩
      simp only [List.length_append, List.length_singleton] at hj
      by_cases e2 : j < g.2.length
      · rw [getD_app_left e2]; exact k.pg j e2
      · obtain rfl : j = g.2.length := by omega
        rw [getD_app_last]; exact ⟨h0, h1⟩
  · have e : (A ++ [(g.1, g.2 ++ [v])]).flatMap (·.2) = (A ++ [g]).flatMap (·.2) ++ [v] := by simp
    rw [e]
    by_cases hv : 0 ≤ v
    · rw [nodup_pos hv]
      refine ⟨h.np, fun hm => ?_⟩
      obtain ⟨x, hx, hvx⟩ := List.mem_flatMap.1 (mem_posi.1 hm).1
      exact loc_none.1 (hn hv) x hx hvx
    · rw [posi_neg (by omega)]; exact h.np

theorem good_drop {g : Log} (h : Good P L K D H S (g :: G)) : Good P L K D H S G := by
  have hgl := h.li.gl
  simp only [List.length_cons] at hgl
  refine ⟨⟨h.li.sh, h.li.dl, h.li.hl, by omega, fun i hi => ?_, h.li.sq⟩, h.d1, h.hd, ?_, ?_⟩
  · have k := h.li.lg (i + 1) (by simp; omega)
    have e : (g :: G).getD (i + 1) (0, []) = G.getD i (0, []) := rfl
    rw [e, List.length_cons] at k
    exact ⟨k.p0, k.p1, k.le, fun h2 => k.eq (by omega), k.pg⟩
  · refine List.Sublist.nodup (List.Sublist.filter _ ?_) h.nb
    exact List.Sublist.append (List.Sublist.refl _) (List.sublist_cons_self _ _)
  · have := h.np
    rw [List.flatMap_cons, posi_app] at this
    exact (List.nodup_append.1 this).2.1
end

section
open Classical
variable (P L K : Int) (D : List Int) (H : List Bool) (S : Int × (Int × Int)) (G : List Log)

noncomputable def dropS : Tab × (Int × (Int × Unit)) :=
  if ¬ Good P L K D H S G then (zeroT, (0, (50, ())))
  else match G with
    | [] => (zeroT, (0, (51, ())))
    | g :: G' => if ∃ p ∈ g.2, 0 ≤ p then (zeroT, (0, (51, ()))) else ((P, (L, (K, (D, (H, (S, G')))))), (g.1, (0, ())))
end

section
variable {P L K : Int} {D : List Int} {H : List Bool} {S : Int × (Int × Int)} {G : List Log}

theorem m24_spec : m24 ((P, (L, (K, (D, (H, (S, G)))))), ()) = some (dropS P L K D H S G) := by
  apply ok_eq
  unfold m24
  unfold dropS
  by_cases h : Good P L K D H S G
  rotate_left
  · rw [m25_bad h]
    simp only [Option.bind_some]
    refine Ok.ncond (fun _ => Ok.some ?_) (fun h1 => by simp at h1)
    rw [if_pos h]; rfl
  rw [m25_good h, if_neg (Classical.not_not.2 h)]
  simp only [Option.bind_some]
  obtain ⟨s1, s2, s3, s4⟩ := h.sz
  refine Ok.ncond (fun h1 => absurd trivial h1) (fun _ => ?_)
  cases G with
  | nil => exact Ok.cond (fun _ => Ok.some rfl) (fun h => by simp at h)
  | cons g G =>
    refine Ok.cond (fun h => by simp at h; omega) (fun _ => ?_)
    simp only [List.length_cons] at s3
    refine Ok.gd (by simp only [List.length_cons]; omega) ?_
    rw [clo_eq P L K D H S (g :: G) (by simp; omega) (fun i hi => by have := s4 i hi; omega)]
    have e0 : (g :: G).getD (Int.toNat 0) (0, []) = g := rfl
    simp only [e0, Option.bind_some]
    have hgl := h.el g (by simp)
    refine Ok.bind (S := fun e => match e with | .inl _ => ¬ ∃ p ∈ g.2, 0 ≤ p | .inr v => 0 ≤ v ∧ ∃ p ∈ g.2, 0 ≤ p) (Ok.loop g.2.length (fun j x => x = (j : Int) ∧ ∀ k, k < j → g.2.getD k 0 < 0) ⟨rfl, fun k hk => by omega⟩ ?_) fun y hy => ?_
    · rintro j x hj ⟨rfl, hr⟩
      refine Ok.cond (fun hc => ?_) (fun hc => Ok.inr ?_)
      rotate_left
      · rintro ⟨p, hp, h0⟩
        obtain ⟨k, hk, e⟩ := List.getElem_of_mem hp
        have := hr k (by omega)
        rw [List.getD_eq_getElem?_getD, List.getElem?_eq_getElem hk, Option.getD_some] at this
        omega
      simp only [Int.toNat_natCast] at hc ⊢
      rw [wrap64 (n := (j : Int) + 1) (by omega) (by omega)]
      refine Ok.gd (by omega) (Ok.gd (by omega) ?_)
      refine Ok.cond (fun a => Ok.inr ⟨by omega, _, getD_mem (by omega), a⟩) (fun a => Ok.inl ⟨by omega, by omega, fun k hk => ?_⟩)
      by_cases e : k = j
      · subst e; omega
      · exact hr k (by omega)
    · refine Ok.elim (fun v e => ?_) (fun v e => ?_)
      · subst e
        have hy : ¬ ∃ p ∈ g.2, 0 ≤ p := hy
        rw [if_neg hy]
        refine Ok.cond (fun h => by omega) (fun _ => ?_)
        refine Ok.gd (by omega) (Ok.gd (by omega) (Ok.gd (by omega) (Ok.gd (by omega) (Ok.gd (by omega) (Ok.gd (by omega) ?_)))))
        refine Ok.gd (by simp only [List.length_cons]; omega) (Ok.gd (by simp) (Ok.gd (by simp only [List.length_cons]; omega) (Ok.gd (by omega) (Ok.some ?_))))
        have e1 : List.take ((Int.toNat (((g :: G).length : Nat) : Int)) - (Int.toNat 1)) (List.drop (Int.toNat 1) (g :: G)) = G := by
          show List.take ((g :: G).length - 1) G = G
          simp
        rw [e1]
        rfl
      · subst e
        refine Ok.cond (fun _ => Ok.some ?_) (fun h => absurd hy.1 h)
        rw [if_pos hy.2]; rfl
end

section
variable {Q : Nat} {L K : Int} {D : List Int} {H : List Bool} {S : Int × (Int × Int)} {G : List Log}

theorem open_keeps (h : Good Q L K D H S G) (s : Int × Int) (ph : Int) (he : (openS Q L K D H S G s ph).2.1 = 0) :
    ∃ S' G', (openS Q L K D H S G s ph).1 = ((Q : Int), (L, (K, (D, (H, (S', G')))))) ∧ Good Q L K D H S' G' ∧ ∀ n : Nat, n < H.length → wh Q D H S G n = wh Q D H S' G' n := by
  unfold openS at he ⊢
  rw [if_neg (Classical.not_not.2 h)] at he ⊢
  by_cases hf : fresh D S G ph
  rotate_left
  · rw [if_pos hf] at he; simp at he
  rw [if_neg (Classical.not_not.2 hf)] at he ⊢
  by_cases c1 : s.1 = 3 ∧ S.1 < 0 ∧ 0 ≤ s.2 ∧ s.2 < L
  · rw [if_pos c1] at he ⊢
    refine ⟨_, _, rfl, good_openSeq h c1.2.1 c1.2.2.1 c1.2.2.2 hf, fun n hn => ?_⟩
    unfold wh
    cases loc n G with
    | some p => rfl
    | none =>
      have := c1.2.1
      have n1 : ¬ (0 ≤ S.1 ∧ S.2.1 = ((n / Q : Nat) : Int) ∧ ((n % Q : Nat) : Int) < S.2.2) := fun g => by omega
      have n2 : ¬ (0 ≤ ph ∧ s.2 = ((n / Q : Nat) : Int) ∧ ((n % Q : Nat) : Int) < 0) := fun g => by omega
      simp only
      rw [if_neg n1, if_neg n2]
  rw [if_neg c1] at he ⊢
  by_cases c2 : s.1 = 4 ∧ (G.length : Int) < K ∧ room Q G = false
  · rw [if_pos c2] at he ⊢
    refine ⟨_, _, rfl, good_openRand h c2.2.1 c2.2.2 hf, fun n hn => ?_⟩
    unfold wh
    rw [loc_app]
    have : loc (n : Int) [(ph, [])] = none := rfl
    rw [this, Option.or_none]
  · rw [if_neg c2] at he; simp at he

theorem snoc_of {G : List Log} (h : 0 < G.length) : ∃ A g, G = A ++ [g] :=
  ⟨G.dropLast, G.getLast (by intro e; rw [e] at h; simp at h), (List.dropLast_concat_getLast _).symm⟩

theorem room_pos {P : Int} {G : List Log} (h : room P G = true) : 0 < G.length := by
  unfold room at h; simp only [decide_eq_true_eq] at h; exact h.1

theorem put_keeps (h : Good Q L K D H S G) (s : Int × Int) (n : Int) (he : (putS Q L K D H S G s n).2.2.1 = 0) :
    ∃ (S' : Int × (Int × Int)) (G' : List Log) (m : Nat), n = m ∧ m < H.length ∧ (putS Q L K D H S G s n).1 = ((Q : Int), (L, (K, (D, (H, (S', G')))))) ∧ Good Q L K D H S' G' ∧ wh Q D H S' G' m = ((putS Q L K D H S G s n).2.1, (true, ())) ∧ ∀ k : Nat, k < H.length → k ≠ m → wh Q D H S G k = wh Q D H S' G' k := by
  unfold putS at he ⊢
  rw [if_neg (Classical.not_not.2 h)] at he ⊢
  by_cases hr : 0 ≤ n ∧ n < H.length
  rotate_left
  · rw [if_pos hr] at he; simp at he
  rw [if_neg (Classical.not_not.2 hr)] at he ⊢
  obtain ⟨m, rfl⟩ : ∃ m : Nat, n = m := ⟨n.toNat, by omega⟩
  have hG' := good_forget (isn (m : Int)) h
  have hgone : loc (m : Int) (G.map (fgc (isn (m : Int)))) = none := loc_gone _ (by omega) (by simp [isn]) G
  have hsame : ∀ k : Nat, k ≠ m → loc (k : Int) (G.map (fgc (isn (m : Int)))) = loc (k : Int) G := fun k hk => loc_fgc _ (by omega) (by simp [isn]; omega) G
  have hlen : (G.map (fgc (isn (m : Int)))).length = G.length := List.length_map ..
  have hrm := room_fgc Q (isn (m : Int)) G
  have hQ := h.li.sh.1
  simp only [div_mod.1, div_mod.2] at he ⊢
  by_cases c1 : s.1 = 1 ∧ 0 ≤ S.1 ∧ S.2.1 = ((m / Q : Nat) : Int) ∧ S.2.2 = ((m % Q : Nat) : Int)
  · rw [if_pos c1] at he ⊢
    obtain ⟨e1, e2, e3, e4⟩ := c1
    have hmod : m % Q < Q := Nat.mod_lt _ (by omega)
    refine ⟨_, _, m, rfl, by omega, rfl, good_putSeq hG' e2 (by rw [e4]; omega), ?_, fun k hk hne => ?_⟩
    · unfold wh
      rw [hgone]
      simp only
      rw [if_pos ⟨e2, e3, by rw [e4]; omega⟩, e4]
    · unfold wh
      rw [hsame k hne]
      cases loc (k : Int) G with
      | some p => rfl
      | none =>
        simp only
        by_cases c : 0 ≤ S.1 ∧ S.2.1 = ((k / Q : Nat) : Int) ∧ ((k % Q : Nat) : Int) < S.2.2
        · rw [if_pos c, if_pos ⟨c.1, c.2.1, by omega⟩]
        · have c' : ¬ (0 ≤ S.1 ∧ S.2.1 = ((k / Q : Nat) : Int) ∧ ((k % Q : Nat) : Int) < S.2.2 + 1) := ?_
          · rw [if_neg c, if_neg c']
          rintro ⟨g1, g2, g3⟩
          refine c ⟨g1, g2, ?_⟩
          by_cases e : k % Q = m % Q
          · have e5 : k / Q = m / Q := by omega
            exact absurd (by rw [← Nat.div_add_mod k Q, ← Nat.div_add_mod m Q, e, e5]) hne
          · omega
  rw [if_neg c1] at he ⊢
  by_cases c2 : s.1 = 2 ∧ room Q G = true
  · rw [if_pos c2] at he ⊢
    obtain ⟨A, g, hAg⟩ := snoc_of (by rw [hlen]; exact room_pos c2.2 : 0 < (G.map (fgc (isn (m : Int)))).length)
    have hl2 : G.length - 1 = A.length := by rw [← hlen, hAg]; simp
    rw [hAg] at hgone hG' hrm hsame
    simp only [hAg, hl2]
    have hlt : (m : Int) < Q * L := by have := h.li.hl; omega
    refine ⟨_, _, m, rfl, by omega, rfl, good_addLast hG' (by rw [hrm]; exact c2.2) (by omega) hlt (fun _ => hgone), ?_, fun k hk hne => ?_⟩
    · unfold wh
      rw [loc_addLast_self A g hgone]
      simp only
      rw [addLast_snoc]
      have e4 : ith (A := Int) (ki := .int .i64) (A ++ [(g.1, g.2 ++ [(m : Int)])]) A.length = g.2 ++ [(m : Int)] := ith_mid A [] _
      have e5 : hth (kh := .int .i64) (ki := .int .i64) (A ++ [(g.1, g.2 ++ [(m : Int)])]) A.length = g.1 := hth_mid A [] _
      rw [e4, e5]
      have e6 : (g.2 ++ [(m : Int)]).length = g.2.length + 1 := by simp
      rw [e6, show ((g.2.length + 1 : Nat) : Int) - 1 = (g.2.length : Int) by omega]
    · unfold wh
      rw [loc_addLast (by omega) A g, hsame k hne]
  · rw [if_neg c2] at he; simp at he

theorem skip_keeps (h : Good Q L K D H S G) (s : Int × Int) (he : (skipS Q L K D H S G s).2.1 = 0) :
    ∃ S' G', (skipS Q L K D H S G s).1 = ((Q : Int), (L, (K, (D, (H, (S', G')))))) ∧ Good Q L K D H S' G' ∧ ∀ n : Nat, n < H.length → wh Q D H S G n = wh Q D H S' G' n := by
  unfold skipS at he ⊢
  rw [if_neg (Classical.not_not.2 h)] at he ⊢
  by_cases c : s.1 = 2 ∧ room Q G = true
  · rw [if_pos c] at he ⊢
    obtain ⟨A, g, hAg⟩ := snoc_of (room_pos c.2)
    subst hAg
    have hm := shape_mul h.li.sh
    refine ⟨_, _, rfl, good_addLast h c.2 (by omega) (by omega) (fun h => by omega), fun n hn => ?_⟩
    unfold wh
    rw [loc_addLast (by omega) A g]
  · rw [if_neg c] at he; simp at he

theorem drop_keeps (h : Good Q L K D H S G) (he : (dropS Q L K D H S G).2.2.1 = 0) :
    ∃ S' G', (dropS Q L K D H S G).1 = ((Q : Int), (L, (K, (D, (H, (S', G')))))) ∧ Good Q L K D H S' G' ∧ ∀ n : Nat, n < H.length → wh Q D H S G n = wh Q D H S' G' n := by
  unfold dropS at he ⊢
  rw [if_neg (Classical.not_not.2 h)] at he ⊢
  cases G with
  | nil => simp at he
  | cons g G =>
    simp only at he ⊢
    by_cases c : ∃ p ∈ g.2, 0 ≤ p
    · rw [if_pos c] at he; simp at he
    rw [if_neg c] at he ⊢
    refine ⟨_, _, rfl, good_drop h, fun n hn => ?_⟩
    unfold wh
    rw [loc_neg (by omega) (fun p hp => by
      have : ¬ 0 ≤ p := fun h0 => c ⟨p, hp, h0⟩
      omega)]
end

theorem live_ok : m10 () = some (true, ()) := by
  have sh : shape 4 2 1 := ⟨by omega, by omega, by omega, by omega, by omega, by omega⟩
  have g0 : Good 4 2 1 [-1, -1] [false, false, false, false, false, false, false, false] (-1, (0, 0)) [] := newT_good sh
  have e0 : newT 4 2 1 = (4, (2, (1, ([-1, -1], ([false, false, false, false, false, false, false, false], ((-1, (0, 0)), [])))))) := rfl
  have w : wantS 4 2 1 [-1, -1] [false, false, false, false, false, false, false, false] (-1, (0, 0)) [] 0 = ((3, 0), (0, ())) := by
    unfold wantS seqW
    rw [if_neg (Classical.not_not.2 g0), if_neg (by simp), if_pos (by rfl), if_pos (by simp)]; rfl
  have f : fresh [-1, -1] (-1, (0, 0)) [] 7 := ⟨by omega, by omega, by simp [blocks, posi]⟩
  have o : openS 4 2 1 [-1, -1] [false, false, false, false, false, false, false, false] (-1, (0, 0)) [] (3, 0) 7 = ((4, (2, (1, ([-1, -1], ([false, false, false, false, false, false, false, false], ((7, (0, 0)), [])))))), (0, ())) := by
    unfold openS
    rw [if_neg (Classical.not_not.2 g0), if_neg (Classical.not_not.2 f), if_pos (by simp)]
  have g1 : Good 4 2 1 [-1, -1] [false, false, false, false, false, false, false, false] (7, (0, 0)) [] := good_openSeq g0 (by simp) (by omega) (by omega) f
  have p : putS 4 2 1 [-1, -1] [false, false, false, false, false, false, false, false] (7, (0, 0)) [] (1, 0) 0 = ((4, (2, (1, ([-1, -1], ([false, false, false, false, false, false, false, false], ((7, (0, 1)), [])))))), ((7, 0), (0, ()))) := by
    unfold putS
    rw [if_neg (Classical.not_not.2 g1), if_neg (by simp), if_pos (by simp)]; rfl
  have g2 : Good ((4 : Nat) : Int) 2 1 [-1, -1] [false, false, false, false, false, false, false, false] (7, (0, 1)) [] := good_putSeq g1 (by simp) (by simp)
  have v := m22_good g2 0 (by simp)
  have v' : m22 (((4 : Int), ((2 : Int), ((1 : Int), ([-1, -1], ([false, false, false, false, false, false, false, false], ((7, (0, 1)), [])))))), ((0 : Int), ())) = some ((7, 0), (true, ())) := by
    refine Eq.trans v ?_
    unfold wh
    rw [show loc ((0 : Nat) : Int) [] = none from rfl]
    simp
  unfold m10
  rw [m30_yes sh]
  simp only [Option.bind_some, e0]
  rw [m13_spec, w]
  simp only [Option.bind_some]
  rw [m15_spec, o]
  simp only [Option.bind_some]
  rw [m18_spec, p]
  simp only [Option.bind_some]
  rw [v']
  rfl
end Go.Proofs.Ytecadglgkhfaaaa
end

section
open Go Go.Proofs.AM
namespace Go.Proofs.Ytecadglgkhfaaaa

noncomputable def m27 (x : tT × tT × Int × Int × Unit) : Option (Bool × Unit) :=
 Option.bind (loopM (X := Int) (E := (Unit ⊕ Bool)) (fun (x1 : Int) =>
 bif (decide (x1 < x.1.1)) then
 (Option.bind (m22 (x.1, ((Go.IntKind.wrap .i64 ((Go.IntKind.wrap .i64 (x.2.2.1 * x.1.1)) + x1)), ()))) fun (y2 : ((Int × Int) × (Bool × Unit))) =>
 Option.bind (m22 (x.2.1, ((Go.IntKind.wrap .i64 ((Go.IntKind.wrap .i64 (x.2.2.1 * x.1.1)) + x1)), ()))) fun (y3 : ((Int × Int) × (Bool × Unit))) =>
 bif (!(bif y2.2.1 then y3.2.1 else (!y3.2.1))) then
 (some (Sum.inr (Sum.inr false)))
 else
 (bif y3.2.1 then
 (bif (!((decide (y3.1.1 = x.2.2.2.1)) && (decide (y3.1.2 = x1)))) then
 (some (Sum.inr (Sum.inr false)))
 else
 (some (Sum.inl (Go.IntKind.wrap .i64 (x1 + (1 : Int))))))
 else
 (some (Sum.inl (Go.IntKind.wrap .i64 (x1 + (1 : Int)))))))
 else
 (some (Sum.inr (Sum.inl ())))) (0 : Int)) fun (y1 : (Unit ⊕ Bool)) =>
 Sum.elim (fun y2 =>
 Option.bind (m23 (x.1, (x.2.1, ((Go.IntKind.wrap .i64 (x.2.2.1 * x.1.1)), ((Go.IntKind.wrap .i64 ((Go.IntKind.wrap .i64 (x.2.2.1 * x.1.1)) + x.1.1)), ()))))) fun (y3 : (Bool × Unit)) =>
 some (y3.1, ())) (fun y2 =>
 some (y2, ())) y1

noncomputable def r27 : PDen [(true, kT), (true, kT), (false, (.int .i64)), (false, (.int .i64))] → Option (PDen [(false, .bool)]) := fun x => afun Try.prog ({ envOf [(22, ⟨[(true, kT), (false, (.int .i64))], [(true, (.pair (.int .i64) (.int .i64))), (false, .bool)], false, m22⟩), (23, ⟨[(true, kT), (true, kT), (false, (.int .i64)), (false, (.int .i64))], [(false, .bool)], false, m23⟩)] [] [] [] with deep := [79] }) ⟨[(0, ⟨[.slot 21 (.d false (.int .i64) true)], [], [(some 0, []), (none, [.slot 8 (.d false .bool true)])], none⟩)], []⟩ Try.f27 [(true, kT), (true, kT), (false, (.int .i64)), (false, (.int .i64))] [(false, .bool)] false x
theorem r27_eq : r27 = m27 := by kernel_rfl

theorem c27 : CS.Sound Try.prog 27 ⟨[(true, kT), (true, kT), (false, (.int .i64)), (false, (.int .i64))], [(false, .bool)], false, m27⟩ := afun_sound' (Env.Sound.deepen (envOf_sound (CSs.cons c22 (CSs.cons c23 (CSs.nil))) (HDs.nil) (IDs.nil)) [79]) rfl Try.follows (f := 27) (fn := Try.f27) Try.func27 (by kernel_rfl) (by kernel_rfl) r27_eq
end Go.Proofs.Ytecadglgkhfaaaa
end

section
open Go Go.Proofs.AM
namespace Go.Proofs.Ytecadglgkhfaaaa

noncomputable def m5 (x : tT × Int × Int × Unit) : Option (Bool × Unit) :=
 Option.bind (m10 ()) fun (y1 : (Bool × Unit)) =>
 bif (!y1.1) then
 (some (false, ()))
 else
 (Option.bind (m11 (x.1, ())) fun (y2 : (Bool × Unit)) =>
 bif (!y2.1) then
 (some (true, ()))
 else
 (Option.bind (m25 (x.1, ())) fun (y3 : (Int × Unit)) =>
 bif (!(decide (y3.1 = (0 : Int)))) then
 (some (true, ()))
 else
 (Option.bind (m26 (x.1, (x.2.1, (x.2.2.1, ())))) fun (y4 : (tT × ((List Int) × (Int × Unit)))) =>
 bif (decide (y4.2.2.1 = (0 : Int))) then
 (Option.bind (m27 (x.1, (y4.1, (x.2.1, (x.2.2.1, ()))))) fun (y5 : (Bool × Unit)) =>
 bif (!y5.1) then
 (some (false, ()))
 else
 (Option.bind (m28 (x.1, ())) fun (y6 : (tT × ((List Int) × (Int × Unit)))) =>
 bif (!(decide (y6.2.2.1 = (0 : Int)))) then
 (some (true, ()))
 else
 (Option.bind (m27 (x.1, (y6.1, (x.1.2.2.2.2.2.1.2.1, (x.1.2.2.2.2.2.1.1, ()))))) fun (y7 : (Bool × Unit)) =>
 some (y7.1, ()))))
 else
 (Option.bind (m28 (x.1, ())) fun (y5 : (tT × ((List Int) × (Int × Unit)))) =>
 bif (!(decide (y5.2.2.1 = (0 : Int)))) then
 (some (true, ()))
 else
 (Option.bind (m27 (x.1, (y5.1, (x.1.2.2.2.2.2.1.2.1, (x.1.2.2.2.2.2.1.1, ()))))) fun (y6 : (Bool × Unit)) =>
 some (y6.1, ()))))))

noncomputable def r5 : PDen [(true, kT), (false, (.int .i64)), (false, (.int .i64))] → Option (PDen [(false, .bool)]) := fun x => afun Try.prog ({ envOf [(10, ⟨[], [(false, .bool)], false, m10⟩), (11, ⟨[(true, kT)], [(false, .bool)], false, m11⟩), (25, ⟨[(true, kT)], [(false, (.int .i64))], false, m25⟩), (26, ⟨[(true, kT), (false, (.int .i64)), (false, (.int .i64))], [(true, kT), (false, (.sl (.int .i64))), (false, (.int .i64))], false, m26⟩), (27, ⟨[(true, kT), (true, kT), (false, (.int .i64)), (false, (.int .i64))], [(false, .bool)], false, m27⟩), (28, ⟨[(true, kT)], [(true, kT), (false, (.sl (.int .i64))), (false, (.int .i64))], false, m28⟩)] [] [] [] with deep := [79] }) ⟨[], []⟩ Try.f5 [(true, kT), (false, (.int .i64)), (false, (.int .i64))] [(false, .bool)] false x
theorem r5_eq : r5 = m5 := by kernel_rfl

theorem c5 : CS.Sound Try.prog 5 ⟨[(true, kT), (false, (.int .i64)), (false, (.int .i64))], [(false, .bool)], false, m5⟩ := afun_sound' (Env.Sound.deepen (envOf_sound (CSs.cons c10 (CSs.cons c11 (CSs.cons c25 (CSs.cons c26 (CSs.cons c27 (CSs.cons c28 (CSs.nil))))))) (HDs.nil) (IDs.nil)) [79]) rfl Try.follows (f := 5) (fn := Try.f5) Try.func5 (by kernel_rfl) (by kernel_rfl) r5_eq
end Go.Proofs.Ytecadglgkhfaaaa
end

section
namespace Go.Proofs.Ytecadglgkhfaaaa
open Go Go.Proofs.AM

def inb (P b : Int) (p : Int) : Bool := decide (0 ≤ p ∧ Int.tdiv p P = b)

theorem m61f_eq (b P : Int) (hP : 4 ≤ P) (G : List Log) (hG : G.length ≤ 100) (hg : ∀ g ∈ G, g.2.length ≤ 32) (hp : ∀ g ∈ G, ∀ p ∈ g.2, p < 8192) : m61f b P G = some (G.map (fgc (inb P b))) := by
  unfold m61f
  refine outer_gen (inb P b) G _ (fun A g B hl hm => ?_) (fun X => ?_)
  rotate_left
  · simp only; rw [decide_eq_false (by omega)]; rfl
  have hgl := hg g hm
  have hgp := hp g hm
  simp only [Int.toNat_natCast]
  rw [decide_eq_true (show (A.length : Int) < (G.length : Int) by omega)]
  simp only [cond_true]
  rw [gd_pos (by omega), gd_pos (by omega), gd_pos (by simp)]
  rw [inner_genp (inb P b) A B g _ (fun j row hj hr hrow => ?_) (fun row hr => ?_)]
  · simp only [Option.bind_some]; rw [wrap64 (by omega) (by omega)]
  · simp only [Int.toNat_natCast, ith_mid, setIn_mid]
    rw [decide_eq_true (show (j : Int) < (g.2.length : Int) by omega)]
    simp only [cond_true]
    rw [gd_pos (by omega), gd_pos (by omega), gd_pos (by omega), wrap64 (n := (j : Int) + 1) (by omega) (by omega)]
    unfold inb
    simp only [Bool.cond_eq_ite, decide_eq_true_eq]
    have hlt : row.getD j 0 < 8192 := by rw [hrow]; exact hgp _ (getD_mem hj)
    have aux : ∀ v : Int, v < 8192 → (if v ≥ 0 then (if P = 0 then none else (if IntKind.wrap .i64 (Int.tdiv v P) = b then gd ((0 : Int) ≤ (j : Int)) (gd ((j : Int) < (row.length : Int)) (gd (j < row.length) (some (Sum.inl ((j : Int) + 1, A ++ (g.1, row.set j (-1)) :: B))))) else some (Sum.inl ((j : Int) + 1, A ++ (g.1, row) :: B)))) else some (Sum.inl ((j : Int) + 1, A ++ (g.1, row) :: B))) = (some (Sum.inl ((j : Int) + 1, A ++ (g.1, if 0 ≤ v ∧ Int.tdiv v P = b then row.set j (-1) else row) :: B)) : Option ((Int × List Log) ⊕ List Log)) := by
      intro v hv
      by_cases h0 : v ≥ 0
      · rw [if_pos h0, if_neg (by omega), tdiv_ok h0 hv hP]
        by_cases h1 : Int.tdiv v P = b
        · rw [if_pos h1, if_pos ⟨h0, h1⟩, gd_pos (by omega), gd_pos (by omega), gd_pos (by omega)]
        · rw [if_neg h1, if_neg (fun k => h1 k.2)]
      · rw [if_neg h0, if_neg (fun k => h0 k.1)]
    exact aux (row.getD j 0) hlt
  · simp only [Int.toNat_natCast, ith_mid]
    rw [decide_eq_false (by omega)]; rfl

def hv (Q : Nat) (D : List Int) (H : List Bool) (S : Int × (Int × Int)) (G : List Log) (b : Nat) : List Bool := (List.range Q).map fun o => (wh Q D H S G (b * Q + o)).2.1

def setH (Q : Nat) (D : List Int) (H : List Bool) (S : Int × (Int × Int)) (G : List Log) (b : Nat) : List Bool := H.take (b * Q) ++ hv Q D H S G b ++ H.drop (b * Q + Q)

open Classical in
noncomputable def setS (S : Int × (Int × Int)) (b : Nat) : Int × (Int × Int) := if 0 ≤ S.1 ∧ S.2.1 = (b : Int) then (-1, (0, 0)) else S

section
variable {Q : Nat} {L K : Int} {D : List Int} {H : List Bool} {S : Int × (Int × Int)} {G : List Log}

theorem hv_len (b : Nat) : (hv Q D H S G b).length = Q := by simp [hv]
theorem blk_le (h : Good Q L K D H S G) {b : Nat} (hb : (b : Int) < L) : b * Q + Q ≤ H.length ∧ H.length ≤ 8192 := by
  have hm := shape_mul h.li.sh
  have hl := h.li.hl
  have : ((b + 1 : Nat) : Int) * Q ≤ L * Q := Int.mul_le_mul_of_nonneg_right (by omega) (by omega)
  have e : (((b + 1) * Q : Nat) : Int) = ((b + 1 : Nat) : Int) * Q := by simp
  have e2 : (b + 1) * Q = b * Q + Q := by rw [Nat.add_mul, Nat.one_mul]
  omega

theorem setH_len (h : Good Q L K D H S G) {b : Nat} (hb : (b : Int) < L) : (setH Q D H S G b).length = H.length := by
  have := blk_le h hb
  unfold setH
  simp only [List.length_append, List.length_take, List.length_drop, hv_len]
  omega

theorem setH_out (h : Good Q L K D H S G) {b : Nat} (hb : (b : Int) < L) {n : Nat} (hn : n < b * Q ∨ b * Q + Q ≤ n) : (setH Q D H S G b).getD n false = H.getD n false := by
  have hle := blk_le h hb
  unfold setH
  have l1 : (H.take (b * Q)).length = b * Q := by simp; omega
  simp only [List.getD_eq_getElem?_getD]
  rcases hn with hn | hn
  · rw [List.append_assoc, List.getElem?_append_left (by omega), List.getElem?_take_of_lt hn]
  · rw [List.getElem?_append_right (by rw [List.length_append, l1, hv_len]; omega), List.length_append, l1, hv_len, List.getElem?_drop]
    congr 2; omega

theorem div_out {b n : Nat} (hQ : 0 < Q) : n / Q ≠ b ↔ n < b * Q ∨ b * Q + Q ≤ n := by
  have h1 := Nat.div_add_mod n Q
  have h2 := Nat.mod_lt n hQ
  obtain ⟨q, hq⟩ : ∃ q, n / Q = q := ⟨_, rfl⟩
  rw [hq] at h1 ⊢
  rw [Nat.mul_comm] at h1
  constructor
  · intro h
    rcases Nat.lt_or_gt_of_ne h with g | g
    · left
      have : (q + 1) * Q ≤ b * Q := Nat.mul_le_mul_right Q g
      rw [Nat.add_mul, Nat.one_mul] at this; omega
    · right
      have : (b + 1) * Q ≤ q * Q := Nat.mul_le_mul_right Q g
      rw [Nat.add_mul, Nat.one_mul] at this; omega
  · rintro h rfl
    omega

theorem good_settle (h : Good Q L K D H S G) {b : Nat} (hb : (b : Int) < L) {ph : Int} (h0 : 0 ≤ ph) (h1 : ph ≤ 255) (hn : ph ∉ posi ((setS S b).1 :: (D.take b ++ D.drop (b + 1)) ++ G.map (·.1))) :
    Good Q L K (D.set b ph) (setH Q D H S G b) (setS S b) (G.map (fgc (inb Q b))) := by
  have hf := good_forget (inb Q b) h
  have hDl := h.li.dl
  have hbD : b < D.length := by omega
  have hQ : 0 < Q := by have := h.li.sh.1; omega
  have hS : (setS S b).1 = -1 ∨ (setS S b).1 = S.1 := by
    unfold setS; split
    · exact .inl rfl
    · exact .inr rfl
  refine ⟨⟨h.li.sh, by rw [List.length_set]; exact hDl, by rw [setH_len h hb]; exact h.li.hl, hf.li.gl, hf.li.lg, ?_⟩, fun i hi => ?_, fun p hp hv => ?_, ?_, hf.np⟩
  · unfold setS; split
    · exact .inl rfl
    · exact h.li.sq
  · rw [List.length_set] at hi
    rw [getD_set _ _ _ _ _ hbD]
    split
    · omega
    · exact h.d1 i hi
  · rw [setH_len h hb] at hp
    simp only [Int.toNat_natCast]
    rw [getD_set _ _ _ _ _ hbD]
    by_cases e : b = p / Q
    · rw [if_pos e]; exact h0
    · rw [if_neg e]
      rw [setH_out h hb ((div_out hQ).1 (fun g => e g.symm))] at hv
      have := h.hd p hp hv
      simpa using this
  · have hfst : (G.map (fgc (inb Q b))).map (·.1) = G.map (·.1) := by rw [List.map_map]; rfl
    rw [hfst]
    have e1 : D.set b ph = D.take b ++ ph :: D.drop (b + 1) := by rw [List.set_eq_take_append_cons_drop, if_pos hbD]
    have e2 : D = D.take b ++ D.getD b 0 :: D.drop (b + 1) := by
      rw [← getD_cons_drop hbD, List.take_append_drop]
    have hp : (posi ((setS S b).1 :: D.set b ph ++ G.map (·.1))).Perm (ph :: posi ((setS S b).1 :: (D.take b ++ D.drop (b + 1)) ++ G.map (·.1))) := by
      have : ((setS S b).1 :: D.set b ph ++ G.map (·.1)).Perm (ph :: ((setS S b).1 :: (D.take b ++ D.drop (b + 1)) ++ G.map (·.1))) := by
        rw [e1]
        simp only [List.cons_append, List.append_assoc]
        refine List.Perm.trans (List.Perm.cons _ List.perm_middle) ?_
        exact List.Perm.swap _ _ _
      have := posi_perm this
      rw [posi_cons, if_pos h0] at this
      exact this
    rw [hp.nodup_iff, List.nodup_cons]
    refine ⟨hn, ?_⟩
    have hb0 := h.nb
    have sub : (posi ((setS S b).1 :: (D.take b ++ D.drop (b + 1)) ++ G.map (·.1))).Sublist (posi (S.1 :: D ++ G.map (·.1))) := by
      have sD : (D.take b ++ D.drop (b + 1)).Sublist D := by
        conv => rhs; rw [e2]
        exact List.Sublist.append (List.Sublist.refl _) (List.sublist_cons_self _ _)
      have s2 : (posi ((D.take b ++ D.drop (b + 1)) ++ G.map (·.1))).Sublist (posi (D ++ G.map (·.1))) := List.Sublist.filter _ (List.Sublist.append sD (List.Sublist.refl _))
      simp only [List.cons_append]
      rw [posi_cons, posi_cons]
      rcases hS with e | e
      · rw [e, if_neg (by simp)]
        split
        · exact List.Sublist.cons _ s2
        · exact s2
      · rw [e]
        split
        · exact List.Sublist.cons_cons _ s2
        · exact s2
    exact sub.nodup hb0

theorem m61_ok (h : Good Q L K D H S G) {b : Nat} (hb : (b : Int) < L) {ph : Int} (h0 : 0 ≤ ph) (h1 : ph ≤ 255) (hn : ph ∉ posi ((setS S b).1 :: (D.take b ++ D.drop (b + 1)) ++ G.map (·.1))) :
    m61 (((Q : Int), (L, (K, (D, (H, (S, G)))))), ((b : Int), (ph, ()))) = some (((Q : Int), (L, (K, (D.set b ph, (setH Q D H S G b, (setS S b, G.map (fgc (inb Q b)))))))), (delI (sortI (blocks D S G)) (sortI (blocks (D.set b ph) (setS S b) (G.map (fgc (inb Q b))))), ())) := by
  apply ok_eq
  obtain ⟨s1, s2, s3, s4⟩ := h.sz
  have g' := good_settle h hb h0 h1 hn
  have hbl := blk_le h hb
  have hsh := h.li.sh
  obtain ⟨p1, p2, p3, p4, p5, p6⟩ := hsh
  have hDl := h.li.dl
  have hbD : b < D.length := by omega
  have hle1 := blocks_len h
  have hle2 := blocks_len g'
  unfold m61
  refine Ok.bind (m77_ok h) fun y1 e1 => ?_
  subst e1
  rw [clo_eq Q L K D H S G (by omega) (fun i hi => by have := s4 i hi; omega)]
  simp only [Option.bind_some]
  refine Ok.gd (by omega) (Ok.gd (by omega) (Ok.gd (by omega) (Ok.gd (by omega) (Ok.gd (by omega) (Ok.gd (by omega) ?_)))))
  refine Ok.gd (by omega) (Ok.gd (by omega) (Ok.gd (by omega) ?_))
  have w0 : (b : Int) * (Q : Int) = ((b * Q : Nat) : Int) := by simp
  have w1 : IntKind.wrap .i64 ((b : Int) * (Q : Int)) = ((b * Q : Nat) : Int) := by rw [w0, wrap64 (by omega) (by omega)]
  simp only [w1, Int.toNat_natCast]
  refine Ok.bind (S := fun y => y = hv Q D H S G b) (Ok.loop Q (fun i x => x.1 = (i : Int) ∧ x.2 = ((List.range i).map fun o => (wh Q D H S G (b * Q + o)).2.1) ++ List.replicate (Q - i) false) ⟨rfl, by simp⟩ ?_) fun y2 e2 => ?_
  · rintro i ⟨x1, x2⟩ hi ⟨hx, hl⟩
    simp only at hx hl
    subst hx hl
    refine Ok.cond (fun hc => ?_) (fun hc => Ok.inr ?_)
    rotate_left
    · simp only at hc
      obtain rfl : i = Q := by omega
      simp [hv]
    simp only at hc
    have hi' : i < Q := by omega
    have w2 : ((b * Q : Nat) : Int) + (i : Int) = ((b * Q + i : Nat) : Int) := by simp
    rw [w2, wrap64 (n := ((b * Q + i : Nat) : Int)) (by omega) (by omega), wrap64 (n := (i : Int) + 1) (by omega) (by omega)]
    have hm := m56_eq h (b * Q + i) (by omega)
    have hm' : m56 (((Q : Int), (L, (K, (D, (H, ((S.1, (S.2.1, S.2.2)), G)))))), (((b * Q + i : Nat) : Int), ())) = some (wh Q D H S G (b * Q + i)) := hm
    rw [hm']
    simp only [Option.bind_some]
    have e3 : List.replicate (Q - i) false = false :: List.replicate (Q - (i + 1)) false := by
      rw [show Q - i = (Q - (i + 1)) + 1 by omega, List.replicate_succ]
    have hl : (((List.range i).map fun o => (wh Q D H S G (b * Q + o)).2.1) ++ List.replicate (Q - i) false).length = Q := by simp; omega
    have hl2 : ((List.range i).map fun o => (wh Q D H S G (b * Q + o)).2.1).length = i := by simp
    refine Ok.condb (fun ht => ?_) (fun ht => Ok.inl ⟨hi', by simp, ?_⟩)
    · refine Ok.gd (by omega) (Ok.gd (by rw [hl]; omega) (Ok.gd (by rw [hl]; simpa using hi') (Ok.inl ⟨hi', by simp, ?_⟩)))
      simp only [Int.toNat_natCast]
      rw [List.range_succ, List.map_append, e3]
      simp only [List.map_cons, List.map_nil, ht]
      rw [List.set_append_right _ _ (by omega), hl2, Nat.sub_self]
      simp
    · simp only
      rw [List.range_succ, List.map_append, e3]
      simp only [List.map_cons, List.map_nil, ht]
      simp
  subst e2
  refine Ok.gd (by omega) (Ok.gd (by omega) (Ok.gd (by omega) (Ok.gd (by omega) (Ok.gd (by omega) (Ok.gd (by omega) ?_)))))
  rw [m61f_eq b Q p1 G (by omega) h.el (fun g hg p hp => (h.pages g hg p hp).2)]
  simp only [Option.bind_some]
  have eH : (List.take (b * Q) H ++ List.take (H.length - b * Q) (hv Q D H S G b)) ++ List.drop (b * Q + min (hv Q D H S G b).length (H.length - b * Q)) H = setH Q D H S G b := by
    unfold setH
    have e0 : List.take (H.length - b * Q) (hv Q D H S G b) = hv Q D H S G b := List.take_of_length_le (by rw [hv_len]; omega)
    rw [e0, hv_len, Nat.min_eq_left (by omega)]
  rw [eH]
  have fin : ∀ S0 : Int × (Int × Int), S0 = setS S b → Ok (Option.bind (m77 (((Q : Int), (L, (K, (D.set b ph, (setH Q D H S G b, (S0, G.map (fgc (inb Q b)))))))), ())) fun (y5 : (List Int)) =>
      Option.bind (gd ((List.length (sortI (blocks D S G))) ≤ 140737488355328) (gd ((List.length y5) ≤ 140737488355328) (some (delI (sortI (blocks D S G)) y5)))) fun (y6 : (List Int)) =>
      some (((Q : Int), (L, (K, (D.set b ph, (setH Q D H S G b, (S0, G.map (fgc (inb Q b)))))))), (y6, ()))) (fun r => r = (((Q : Int), (L, (K, (D.set b ph, (setH Q D H S G b, (setS S b, G.map (fgc (inb Q b)))))))), (delI (sortI (blocks D S G)) (sortI (blocks (D.set b ph) (setS S b) (G.map (fgc (inb Q b))))), ()))) := by
    rintro S0 rfl
    refine Ok.bind (m77_ok g') fun y5 e5 => ?_
    subst e5
    rw [sortI_len, sortI_len, gd_pos (by omega), gd_pos (by omega)]
    exact Ok.some rfl
  refine Ok.cond (fun a => Ok.cond (fun c => fin _ ?_) (fun c => fin _ ?_)) (fun a => fin _ ?_)
  · unfold setS; rw [if_pos ⟨a, c⟩]
  · unfold setS; rw [if_neg (fun g => c g.2)]
  · unfold setS; rw [if_neg (fun g => a g.1)]
end

section
variable {Q : Nat} {L K : Int} {D : List Int} {H : List Bool} {S : Int × (Int × Int)} {G : List Log}

theorem sub_blocks (b : Nat) {ph : Int} (hf : ph ∉ blocks D S G) (h0 : 0 ≤ ph) : ph ∉ posi ((setS S b).1 :: (D.take b ++ D.drop (b + 1)) ++ G.map (·.1)) := by
  intro hm
  obtain ⟨hm, _⟩ := mem_posi.1 hm
  apply hf
  unfold blocks
  rw [mem_posi]
  refine ⟨?_, h0⟩
  simp only [List.cons_append, List.mem_cons, List.mem_append] at hm ⊢
  rcases hm with e | (e | e) | e
  · unfold setS at e
    split at e
    · simp only at e; omega
    · exact .inl e
  · exact .inr (.inl (List.mem_of_mem_take e))
  · exact .inr (.inl (List.mem_of_mem_drop e))
  · exact .inr (.inr e)

theorem switch_new (h : Good Q L K D H S G) {b : Nat} (hS : 0 ≤ S.1) (hb : S.2.1 = (b : Int)) : S.1 ∉ posi ((setS S b).1 :: (D.take b ++ D.drop (b + 1)) ++ G.map (·.1)) := by
  intro hm
  obtain ⟨hm, _⟩ := mem_posi.1 hm
  have hnb := h.nb
  rw [List.cons_append, posi_cons, if_pos hS, List.nodup_cons] at hnb
  apply hnb.1
  rw [mem_posi]
  refine ⟨?_, hS⟩
  simp only [List.cons_append, List.mem_cons, List.mem_append] at hm ⊢
  rcases hm with e | (e | e) | e
  · unfold setS at e
    rw [if_pos ⟨hS, hb⟩] at e
    simp only at e; omega
  · exact .inl (List.mem_of_mem_take e)
  · exact .inl (List.mem_of_mem_drop e)
  · exact .inr e

def setT (Q : Nat) (L K : Int) (D : List Int) (H : List Bool) (S' : Int × (Int × Int)) (S : Int × (Int × Int)) (G : List Log) (b : Nat) (ph : Int) : Tab := ((Q : Int), (L, (K, (D.set b ph, (setH Q D H S G b, (S', G.map (fgc (inb Q b))))))))

theorem m26_ok (h : Good Q L K D H S G) (block ph : Int) : Ok (m26 (((Q : Int), (L, (K, (D, (H, (S, G)))))), (block, (ph, ())))) (fun r => (∃ b : Nat, block = b ∧ (b : Int) < L ∧ fresh D S G ph ∧ r.2.2.1 = 0 ∧ r.1 = setT Q L K D H (setS S b) S G b ph ∧ r.2.1 = delI (sortI (blocks D S G)) (sortI (blocks (D.set b ph) (setS S b) (G.map (fgc (inb Q b)))))) ∨ (r = (zeroT, ([], (1, ()))) ∧ ¬ (0 ≤ block ∧ block < L ∧ fresh D S G ph))) := by
  obtain ⟨p1, p2, p3, p4, p5, p6⟩ := h.li.sh
  unfold m26
  rw [m25_good h]
  simp only [Option.bind_some]
  refine Ok.ncond (fun h1 => absurd trivial h1) (fun _ => ?_)
  rw [wrap64 (n := L - 1) (by omega) (by omega), m40_eq]
  simp only [Option.bind_some]
  refine Ok.ncond (fun h1 => Ok.some (.inr ⟨rfl, fun g => h1 ⟨g.1, by omega⟩⟩)) (fun h1 => ?_)
  refine Ok.bind (m47_ok h ph) fun y hy => ?_
  refine Ok.condb (fun h2 => Ok.some (.inr ⟨rfl, fun g => ?_⟩)) (fun h2 => ?_)
  · rw [hy.2 g.2.2] at h2; simp at h2
  have hf : fresh D S G ph := hy.1 (by simpa using h2)
  obtain ⟨b, rfl⟩ : ∃ b : Nat, block = b := ⟨block.toNat, by omega⟩
  rw [m61_ok h (by omega) hf.1 hf.2.1 (sub_blocks b hf.2.2 hf.1)]
  exact Ok.some (.inl ⟨b, rfl, by omega, hf, rfl, rfl, rfl⟩)

theorem m28_ok (h : Good Q L K D H S G) : Ok (m28 (((Q : Int), (L, (K, (D, (H, (S, G)))))), ())) (fun r => (∃ b : Nat, S.2.1 = b ∧ (b : Int) < L ∧ 0 ≤ S.1 ∧ ¬ ovr Q S G ∧ r.2.2.1 = 0 ∧ r.1 = setT Q L K D H (setS S b) S G b S.1 ∧ r.2.1 = delI (sortI (blocks D S G)) (sortI (blocks (D.set b S.1) (setS S b) (G.map (fgc (inb Q b)))))) ∨ (r = (zeroT, ([], (51, ()))) ∧ ¬ (0 ≤ S.1 ∧ ¬ ovr Q S G))) := by
  obtain ⟨p1, p2, p3, p4, p5, p6⟩ := h.li.sh
  have hsq := h.li.sq
  unfold m28
  rw [m25_good h]
  simp only [Option.bind_some]
  refine Ok.ncond (fun h1 => absurd trivial h1) (fun _ => ?_)
  refine Ok.cond (fun h1 => Ok.some (.inr ⟨rfl, fun g => by have := g.1; omega⟩)) (fun h1 => ?_)
  refine Ok.bind (m62_ok h) fun y hy => ?_
  refine Ok.condb (fun h2 => Ok.some (.inr ⟨rfl, fun g => g.2 (hy.1 h2)⟩)) (fun h2 => ?_)
  have ho : ¬ ovr Q S G := fun g => by rw [hy.2 g] at h2; simp at h2
  have hS : 0 ≤ S.1 ∧ S.1 ≤ 255 ∧ 0 ≤ S.2.1 ∧ S.2.1 < L := by
    rcases hsq with e | e
    · rw [e] at h1; simp at h1
    · exact ⟨e.1, e.2.1, e.2.2.1, e.2.2.2.1⟩
  obtain ⟨b, hb⟩ : ∃ b : Nat, S.2.1 = b := ⟨S.2.1.toNat, by omega⟩
  have hbL : (b : Int) < L := by rw [← hb]; exact hS.2.2.2
  have hm := m61_ok h hbL hS.1 hS.2.1 (switch_new h hS.1 hb)
  have hx : ((((Q : Int), (L, (K, (D, (H, (S, G)))))), (S.2.1, (S.1, ()))) : Tab × Int × Int × Unit) = (((Q : Int), (L, (K, (D, (H, (S, G)))))), ((b : Int), (S.1, ()))) := by rw [hb]
  rw [hx, hm]
  exact Ok.some (.inl ⟨b, hb, hbL, hS.1, ho, rfl, rfl, rfl⟩)

end
end Go.Proofs.Ytecadglgkhfaaaa
end

section
namespace Go.Proofs.Ytecadglgkhfaaaa
open Go Go.Proofs.AM

theorem m24_bad_ne {P L K : Int} {D : List Int} {H : List Bool} {S : Int × (Int × Int)} {G : List Log} (h : ¬ Good P L K D H S G) : (dropS P L K D H S G).2.2.1 = 50 := by unfold dropS; rw [if_pos h]
theorem open_bad {P L K : Int} {D : List Int} {H : List Bool} {S : Int × (Int × Int)} {G : List Log} (h : ¬ Good P L K D H S G) (s : Int × Int) (n : Int) : (openS P L K D H S G s n).2.1 = 50 := by unfold openS; rw [if_pos h]
theorem put_bad {P L K : Int} {D : List Int} {H : List Bool} {S : Int × (Int × Int)} {G : List Log} (h : ¬ Good P L K D H S G) (s : Int × Int) (n : Int) : (putS P L K D H S G s n).2.2.1 = 50 := by unfold putS; rw [if_pos h]
theorem skip_bad {P L K : Int} {D : List Int} {H : List Bool} {S : Int × (Int × Int)} {G : List Log} (h : ¬ Good P L K D H S G) (s : Int × Int) : (skipS P L K D H S G s).2.1 = 50 := by unfold skipS; rw [if_pos h]

theorem m11_any (t : Tab) : ∃ b, m11 (t, ()) = some (b, ()) := by
  unfold m11
  simp only [Bool.cond_eq_ite]
  split
  · split
    · exact ⟨_, rfl⟩
    · exact ⟨_, rfl⟩
  · exact ⟨_, rfl⟩

section
variable {P L K : Int} {D : List Int} {H : List Bool} {S : Int × (Int × Int)} {G : List Log}

theorem open_all (s : Int × Int) (n : Int) : ∃ o, m15 ((P, (L, (K, (D, (H, (S, G)))))), (s, (n, ()))) = some o ∧ (o.2.1 = 0 → m25 (o.1, ()) = some (0, ())) := by
  refine ⟨_, m15_spec s n, fun e => ?_⟩
  by_cases h : Good P L K D H S G
  · obtain ⟨Q, rfl⟩ : ∃ Q : Nat, P = Q := ⟨P.toNat, by have := h.li.sh.1; omega⟩
    obtain ⟨S', G', e1, g, w⟩ := open_keeps h s n e
    rw [e1]; exact m25_good g
  · rw [open_bad h] at e; simp at e

theorem put_all (s : Int × Int) (n : Int) : ∃ o, m18 ((P, (L, (K, (D, (H, (S, G)))))), (s, (n, ()))) = some o ∧ (o.2.2.1 = 0 → m25 (o.1, ()) = some (0, ())) := by
  refine ⟨_, m18_spec s n, fun e => ?_⟩
  by_cases h : Good P L K D H S G
  · obtain ⟨Q, rfl⟩ : ∃ Q : Nat, P = Q := ⟨P.toNat, by have := h.li.sh.1; omega⟩
    obtain ⟨S', G', m, _, _, e1, g, _⟩ := put_keeps h s n e
    rw [e1]; exact m25_good g
  · rw [put_bad h] at e; simp at e

theorem skip_all (s : Int × Int) : ∃ o, m20 ((P, (L, (K, (D, (H, (S, G)))))), (s, ())) = some o ∧ (o.2.1 = 0 → m25 (o.1, ()) = some (0, ())) := by
  refine ⟨_, m20_spec s, fun e => ?_⟩
  by_cases h : Good P L K D H S G
  · obtain ⟨Q, rfl⟩ : ∃ Q : Nat, P = Q := ⟨P.toNat, by have := h.li.sh.1; omega⟩
    obtain ⟨S', G', e1, g, w⟩ := skip_keeps h s e
    rw [e1]; exact m25_good g
  · rw [skip_bad h] at e; simp at e

theorem drop_all : ∃ o, m24 ((P, (L, (K, (D, (H, (S, G)))))), ()) = some o ∧ (o.2.2.1 = 0 → m25 (o.1, ()) = some (0, ())) := by
  refine ⟨_, m24_spec, fun e => ?_⟩
  by_cases h : Good P L K D H S G
  · obtain ⟨Q, rfl⟩ : ∃ Q : Nat, P = Q := ⟨P.toNat, by have := h.li.sh.1; omega⟩
    obtain ⟨S', G', e1, g, w⟩ := drop_keeps h e
    rw [e1]; exact m25_good g
  · rw [m24_bad_ne h] at e; simp at e

theorem fold_all (block ph : Int) : ∃ o, m26 ((P, (L, (K, (D, (H, (S, G)))))), (block, (ph, ()))) = some o ∧ (o.2.2.1 = 0 → m25 (o.1, ()) = some (0, ())) := by
  by_cases h : Good P L K D H S G
  · obtain ⟨Q, rfl⟩ : ∃ Q : Nat, P = Q := ⟨P.toNat, by have := h.li.sh.1; omega⟩
    obtain ⟨r, e, hr⟩ := m26_ok h block ph
    refine ⟨r, e, fun e0 => ?_⟩
    rcases hr with ⟨b, rfl, hbL, hf, _, e3, _⟩ | ⟨e3, _⟩
    · rw [e3]; exact m25_good (good_settle h hbL hf.1 hf.2.1 (sub_blocks b hf.2.2 hf.1))
    · rw [e3] at e0; simp at e0
  · refine ⟨(zeroT, ([], (50, ()))), ?_, fun e => by simp at e⟩
    unfold m26; rw [m25_bad h]; rfl

theorem switch_all : ∃ o, m28 ((P, (L, (K, (D, (H, (S, G)))))), ()) = some o ∧ (o.2.2.1 = 0 → m25 (o.1, ()) = some (0, ())) := by
  by_cases h : Good P L K D H S G
  · obtain ⟨Q, rfl⟩ : ∃ Q : Nat, P = Q := ⟨P.toNat, by have := h.li.sh.1; omega⟩
    obtain ⟨r, e, hr⟩ := m28_ok h
    refine ⟨r, e, fun e0 => ?_⟩
    rcases hr with ⟨b, hb, hbL, hS, ho, _, e3, _⟩ | ⟨e3, _⟩
    · have hs : S.1 ≤ 255 := by
        rcases h.li.sq with e | e
        · rw [e] at hS; simp at hS
        · exact e.2.1
      rw [e3]; exact m25_good (good_settle h hbL hS hs (switch_new h hS hb))
    · rw [e3] at e0; simp at e0
  · refine ⟨(zeroT, ([], (50, ()))), ?_, fun e => by simp at e⟩
    unfold m28; rw [m25_bad h]; rfl
end

theorem stays (P L K : Int) (D : List Int) (H : List Bool) (S : Int × (Int × Int)) (G : List Log) (s : Int × Int) (n ph : Int) : Ok (m6 (((P, (L, (K, (D, (H, (S, G)))))), (s, (n, ph))), ())) (fun r => r = (true, ())) := by
  unfold m6
  obtain ⟨sm, hsm⟩ := m11_any (P, (L, (K, (D, (H, (S, G))))))
  obtain ⟨o, eo, ho⟩ := open_all (P := P) (L := L) (K := K) (D := D) (H := H) (S := S) (G := G) s ph
  obtain ⟨p, ep, hp⟩ := put_all (P := P) (L := L) (K := K) (D := D) (H := H) (S := S) (G := G) s n
  obtain ⟨k, ek, hk⟩ := skip_all (P := P) (L := L) (K := K) (D := D) (H := H) (S := S) (G := G) s
  obtain ⟨f, ef, hf⟩ := fold_all (P := P) (L := L) (K := K) (D := D) (H := H) (S := S) (G := G) n ph
  obtain ⟨w, ew, hw⟩ := switch_all (P := P) (L := L) (K := K) (D := D) (H := H) (S := S) (G := G)
  obtain ⟨d, ed, hd⟩ := drop_all (P := P) (L := L) (K := K) (D := D) (H := H) (S := S) (G := G)
  rw [live_ok, hsm]
  simp only [Option.bind_some, Bool.not_true, cond_false]
  refine Ok.condb (fun _ => Ok.some rfl) (fun _ => ?_)
  rw [eo, ep, ek, ef, ew, ed]
  simp only [Option.bind_some]
  refine Ok.bind (S := fun z => z = true) (Ok.cond (fun a => ?_) (fun _ => Ok.some rfl)) fun z hz => ?_
  · rw [ho a]; exact Ok.some rfl
  subst hz
  refine Ok.bind (S := fun z => z = true) (Ok.cond (fun a => ?_) (fun _ => Ok.some rfl)) fun z hz => ?_
  · rw [hp a]; exact Ok.some rfl
  subst hz
  refine Ok.bind (S := fun z => z = true) (Ok.cond (fun a => ?_) (fun _ => Ok.some rfl)) fun z hz => ?_
  · rw [hk a]; exact Ok.some rfl
  subst hz
  refine Ok.bind (S := fun z => z = true) (Ok.cond (fun a => ?_) (fun _ => Ok.some rfl)) fun z hz => ?_
  · rw [hf a]; exact Ok.some rfl
  subst hz
  refine Ok.bind (S := fun z => z = true) (Ok.cond (fun a => ?_) (fun _ => Ok.some rfl)) fun z hz => ?_
  · rw [hw a]; exact Ok.some rfl
  subst hz
  refine Ok.cond (fun a => ?_) (fun _ => Ok.some rfl)
  rw [hd a]; exact Ok.some rfl

theorem PlanStays_pure : ∀ x : AM.PDen [(true, (.pair kT (.pair (.pair (.int .i64) (.int .i64)) (.pair (.int .i64) (.int .i64)))))], AM.PWf _ x → m6 x = some (true, ()) := by
  rintro ⟨⟨⟨P, L, K, D, H, S, G⟩, s, n, ph⟩, ⟨⟩⟩ _
  exact ok_eq (stays P L K D H S G s n ph)
end Go.Proofs.Ytecadglgkhfaaaa
end
