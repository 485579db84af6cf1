/- What the functions of this claim compute, each shown by the kernel, and what that comes to, with no program in sight. No condition. -/
import Derived.Test.YtecadglgkhfaaaaCa
import Derived.Test.YtecadglgkhfaaaaAmd
set_option maxRecDepth 2000
set_option linter.unusedVariables false
set_option linter.unusedSimpArgs false
section
namespace Go.Proofs.Ytecadglgkhfaaaa
open Go Go.Proofs.AM

def ovr (P : Int) (S : Int × (Int × Int)) (G : List Log) : Prop := ∃ g ∈ G, ∃ p ∈ g.2, 0 ≤ p ∧ Int.tdiv p P = S.2.1 ∧ Int.tmod p P < S.2.2

section
variable {P L K : Int} {D : List Int} {H : List Bool} {S : Int × (Int × Int)} {G : List Log}

theorem getD_cons_drop {A : Type} {l : List A} {i : Nat} {z : A} (h : i < l.length) : l.drop i = l.getD i z :: l.drop (i + 1) := by
  rw [List.getD_eq_getElem?_getD, List.getElem?_eq_getElem h, Option.getD_some, List.drop_eq_getElem_cons h]

theorem div_lt {p Q : Nat} (h : p < 100000) : p / Q < 100000 := Nat.lt_of_le_of_lt (Nat.div_le_self _ _) h

theorem tdiv_ok {p P : Int} (h0 : 0 ≤ p) (h1 : p < 8192) (hP : 4 ≤ P) : IntKind.wrap .i64 (Int.tdiv p P) = Int.tdiv p P := by
  obtain ⟨N, rfl⟩ : ∃ N : Nat, p = N := ⟨p.toNat, by omega⟩
  obtain ⟨Q, rfl⟩ : ∃ Q : Nat, P = Q := ⟨P.toNat, by omega⟩
  have hd := div_lt (p := N) (Q := Q) (by omega)
  rw [div_mod.1]
  obtain ⟨b, hb⟩ : ∃ b, N / Q = b := ⟨_, rfl⟩
  rw [hb] at hd ⊢
  rw [wrap64 (by omega) (by omega)]

theorem Good.pages (h : Good P L K D H S G) : ∀ g ∈ G, ∀ p ∈ g.2, -1 ≤ p ∧ p < 8192 := fun g hg p hp => by
  have hm := shape_mul h.li.sh
  obtain ⟨i, hi, e⟩ := List.getElem_of_mem hg
  have := (h.li.lg i hi).pg
  rw [List.getD_eq_getElem?_getD, List.getElem?_eq_getElem hi] at this
  simp only [Option.getD_some] at this
  rw [e] at this
  obtain ⟨j, hj, e2⟩ := List.getElem_of_mem hp
  have := this j hj
  rw [List.getD_eq_getElem?_getD, List.getElem?_eq_getElem hj] at this
  simp only [Option.getD_some] at this
  rw [e2] at this
  omega

theorem m62_ok (h : Good P L K D H S G) : Ok (m62 ((P, (L, (K, (D, (H, (S, G)))))), ())) (fun r => r.1 = true ↔ ovr P S G) := by
  obtain ⟨s1, s2, s3, s4⟩ := h.sz
  have hpg := h.pages
  have hel := h.el
  have hP := h.li.sh.1
  unfold m62
  refine Ok.bind (S := fun e => match e with | .inl _ => ¬ ovr P S G | .inr v => v = true ∧ ovr P S G) (Ok.loop G.length (fun i x => x = (i : Int) ∧ ∀ g ∈ G.take i, ∀ p ∈ g.2, ¬ (0 ≤ p ∧ Int.tdiv p P = S.2.1 ∧ Int.tmod p P < S.2.2)) ⟨rfl, fun g hg => by simp at hg⟩ ?_) fun y hy => ?_
  · rintro i x hi ⟨rfl, hq0⟩
    refine Ok.cond (fun hc => ?_) (fun hc => Ok.inr ?_)
    rotate_left
    · simp only at hc
      rw [List.take_of_length_le (by omega)] at hq0
      exact fun ⟨g, hg, p, hp, e⟩ => hq0 g hg p hp e
    simp only [Int.toNat_natCast] at hc ⊢
    have hi' : i < G.length := by omega
    rw [wrap64 (n := (i : Int) + 1) (by omega) (by omega)]
    refine Ok.gd (by omega) (Ok.gd (by omega) ?_)
    obtain ⟨g, hgd⟩ : ∃ g, g = G.getD i (0, []) := ⟨_, rfl⟩
    have hgm : g ∈ G := hgd ▸ getD_mem hi'
    have hgl := hel g hgm
    have hgp := hpg g hgm
    have htk : G.take (i + 1) = G.take i ++ [g] := hgd ▸ take_snoc G i hi' (0, [])
    simp only [← hgd]
    refine Ok.bind (S := fun e => match e with | .inl _ => ∀ p ∈ g.2, ¬ (0 ≤ p ∧ Int.tdiv p P = S.2.1 ∧ Int.tmod p P < S.2.2) | .inr v => v = true ∧ ovr P S G) (Ok.loop g.2.length (fun j x => x = (j : Int) ∧ ∀ p ∈ g.2.take j, ¬ (0 ≤ p ∧ Int.tdiv p P = S.2.1 ∧ Int.tmod p P < S.2.2)) ⟨rfl, fun p hp => by simp at hp⟩ ?_) fun y hy => ?_
    · rintro j x hj ⟨rfl, hr⟩
      refine Ok.cond (fun hc => ?_) (fun hc => Ok.inr ?_)
      rotate_left
      · rw [List.take_of_length_le (by omega)] at hr
        exact hr
      simp only [Int.toNat_natCast] at hc ⊢
      have hj' : j < g.2.length := by omega
      rw [wrap64 (n := (j : Int) + 1) (by omega) (by omega)]
      refine Ok.gd (by omega) (Ok.gd (by omega) ?_)
      obtain ⟨p, hpd⟩ : ∃ p, p = g.2.getD j 0 := ⟨_, rfl⟩
      have hpm : p ∈ g.2 := hpd ▸ getD_mem hj'
      have hpb := hgp p hpm
      have htk2 : g.2.take (j + 1) = g.2.take j ++ [p] := hpd ▸ take_snoc g.2 j hj' 0
      simp only [← hpd]
      have go : ¬ (0 ≤ p ∧ Int.tdiv p P = S.2.1 ∧ Int.tmod p P < S.2.2) → j < g.2.length ∧ ((j : Int) + 1 = ((j + 1 : Nat) : Int) ∧ ∀ p ∈ g.2.take (j + 1), ¬ (0 ≤ p ∧ Int.tdiv p P = S.2.1 ∧ Int.tmod p P < S.2.2)) := fun hn => by
        refine ⟨hj', by omega, fun q hq => ?_⟩
        rw [htk2] at hq
        rcases List.mem_append.1 hq with hq | hq
        · exact hr q hq
        · simp only [List.mem_singleton] at hq; subst hq; exact hn
      refine Ok.cond (fun a => ?_) (fun a => Ok.inl (go fun k => a k.1))
      rw [tdiv_ok a hpb.2 hP]
      refine Ok.ite (fun e => by omega) (fun _ => ?_)
      refine Ok.cond (fun b => ?_) (fun b => Ok.inl (go fun k => b k.2.1))
      refine Ok.ite (fun e => by omega) (fun _ => ?_)
      refine Ok.cond (fun c => Ok.inr ⟨rfl, g, hgm, _, hpm, a, b, c⟩) (fun c => Ok.inl (go fun k => c k.2.2))
    · refine Ok.elim (fun v e => ?_) (fun v e => ?_)
      · subst e
        refine Ok.inl ⟨hi', by omega, fun q hq => ?_⟩
        rw [htk] at hq
        rcases List.mem_append.1 hq with hq | hq
        · exact hq0 q hq
        · simp only [List.mem_singleton] at hq; subst hq; exact hy
      · subst e; exact Ok.inr hy
  · refine Ok.elim (fun v e => ?_) (fun v e => ?_)
    · subst e; exact Ok.some ⟨fun h => by simp at h, fun h => absurd h hy⟩
    · subst e; exact Ok.some ⟨fun _ => hy.2, fun _ => hy.1⟩

theorem loc_none {n : Int} : ∀ {G : List Log}, loc n G = none ↔ ∀ g ∈ G, n ∉ g.2
  | [] => by simp [loc]
  | g :: G => by
    rw [loc]
    cases h : pos n g.2 with
    | none =>
      simp only [List.mem_cons, forall_eq_or_imp]
      rw [loc_none]
      exact ⟨fun k => ⟨pos_none.1 h, k⟩, fun k => k.2⟩
    | some k =>
      simp only [List.mem_cons, forall_eq_or_imp]
      refine ⟨fun g => by simp at g, fun g => ?_⟩
      rw [pos_none.2 g.1] at h; simp at h

end

def fstp : List Int → Option Int
  | [] => none
  | p :: l => if 0 ≤ p then some p else fstp l

theorem fstp_mem : ∀ {l : List Int} {p : Int}, fstp l = some p → p ∈ l ∧ 0 ≤ p
  | x :: l, p, h => by
    rw [fstp] at h
    split at h
    · rename_i h0
      simp only [Option.some.injEq] at h
      subst h; exact ⟨by simp, h0⟩
    · have := fstp_mem h
      exact ⟨List.mem_cons_of_mem _ this.1, this.2⟩

def randW (P K : Int) (G : List Log) : Int × Int :=
  if room P G = true then (2, 0) else if (G.length : Int) < K then (4, 0) else match fstp (G.getD 0 (0, [])).2 with
    | some p => (8, Int.tdiv p P)
    | none => (9, 0)

section
open Classical
variable (P L K : Int) (D : List Int) (H : List Bool) (S : Int × (Int × Int)) (G : List Log)

noncomputable def seqW (b : Int) : Int × Int :=
  if S.1 < 0 then (3, b) else if S.2.1 = b ∧ S.2.2 = 0 then (1, b) else if ovr P S G then (7, S.2.1) else if S.2.2 < P then (6, S.2.1) else (5, S.2.1)

noncomputable def wantS (n : Int) : (Int × Int) × (Int × Unit) :=
  if ¬ Good P L K D H S G then ((0, 0), (50, ()))
  else if ¬ (0 ≤ n ∧ n < H.length) then ((0, 0), (1, ()))
  else if Int.tmod n P = 0 then (seqW P S G (Int.tdiv n P), (0, ()))
  else if 0 ≤ S.1 ∧ S.2.1 = Int.tdiv n P ∧ S.2.2 = Int.tmod n P then ((1, Int.tdiv n P), (0, ()))
  else (randW P K G, (0, ()))
end

section
variable {P L K : Int} {D : List Int} {H : List Bool} {S : Int × (Int × Int)} {G : List Log}

open Classical in
theorem m41_spec (h : Good P L K D H S G) (b : Int) : m41 ((P, (L, (K, (D, (H, (S, G)))))), (b, ())) = some (seqW P S G b, ()) := by
  apply ok_eq
  unfold m41 seqW
  simp only [show decide ((3 : Int) = 5) = false from rfl, show decide ((3 : Int) = 6) = false from rfl, show decide ((3 : Int) = 7) = false from rfl, show decide ((1 : Int) = 5) = false from rfl, show decide ((1 : Int) = 6) = false from rfl, show decide ((1 : Int) = 7) = false from rfl,
    show decide ((7 : Int) = 5) = false from rfl, show decide ((7 : Int) = 6) = false from rfl, show decide ((7 : Int) = 7) = true from rfl, show decide ((6 : Int) = 5) = false from rfl, show decide ((6 : Int) = 6) = true from rfl, show decide ((5 : Int) = 5) = true from rfl, cond_true, cond_false]
  have tail : ¬ S.1 < 0 → ¬ (S.2.1 = b ∧ S.2.2 = 0) → Ok (Option.bind (m62 ((P, (L, (K, (D, (H, (S, G)))))), ())) fun (y1 : (Bool × Unit)) =>
      bif y1.1 then some (((7 : Int), S.2.1), ()) else (bif decide (S.2.2 < P) then some (((6 : Int), S.2.1), ()) else some (((5 : Int), S.2.1), ()))) (fun r => r = (if S.1 < 0 then (3, b) else if S.2.1 = b ∧ S.2.2 = 0 then (1, b) else if ovr P S G then (7, S.2.1) else if S.2.2 < P then (6, S.2.1) else (5, S.2.1), ())) := by
    intro h1 h2
    refine Ok.bind (m62_ok h) fun y hy => ?_
    rw [if_neg h1, if_neg h2]
    refine Ok.condb (fun a => Ok.some ?_) (fun a => ?_)
    · rw [if_pos (hy.1 a)]
    · rw [if_neg (fun g => by rw [hy.2 g] at a; simp at a)]
      refine Ok.cond (fun c => Ok.some ?_) (fun c => Ok.some ?_)
      · rw [if_pos c]
      · rw [if_neg c]
  refine Ok.cond (fun a => Ok.some ?_) (fun a => Ok.cond (fun c => Ok.cond (fun d => Ok.some ?_) (fun d => tail a fun g => d g.2)) (fun c => tail a fun g => c g.1))
  · rw [if_pos a]
  · rw [if_neg a, if_pos ⟨c, d⟩]

theorem fstp_drop {l : List Int} {j : Nat} (hj : j < l.length) : fstp (l.drop j) = if 0 ≤ l.getD j 0 then some (l.getD j 0) else fstp (l.drop (j + 1)) := by
  rw [getD_cons_drop (z := 0) hj]; rfl

theorem m42_spec (h : Good P L K D H S G) : m42 ((P, (L, (K, (D, (H, (S, G)))))), ()) = some (randW P K G, ()) := by
  apply ok_eq
  obtain ⟨s1, s2, s3, s4⟩ := h.sz
  obtain ⟨p1, p2, p3, p4, p5, p6⟩ := h.li.sh
  unfold m42 randW
  rw [m49_eq P L K D H S G (by omega)]
  simp only [Option.bind_some]
  refine Ok.condb (fun a => Ok.some ?_) (fun a => ?_)
  · rw [if_pos a]
  rw [if_neg (fun g => by rw [g] at a; simp at a)]
  refine Ok.cond (fun c => Ok.some ?_) (fun c => ?_)
  · rw [if_pos c]
  rw [if_neg c]
  have hpos : 0 < G.length := by omega
  refine Ok.gd (by omega) ?_
  simp only [Int.toNat_zero]
  obtain ⟨g, hgd⟩ : ∃ g, g = G.getD 0 (0, []) := ⟨_, rfl⟩
  have hgm : g ∈ G := hgd ▸ getD_mem hpos
  have hgl := h.el g hgm
  have hgp := h.pages g hgm
  simp only [← hgd]
  refine Ok.bind (S := fun e => match e with | .inl _ => fstp g.2 = none | .inr v => ∃ p, fstp g.2 = some p ∧ v = (8, Int.tdiv p P)) (Ok.loop g.2.length (fun j x => x.1 = (j : Int) ∧ fstp g.2 = fstp (g.2.drop j)) ⟨rfl, by simp⟩ ?_) fun y hy => ?_
  · rintro j ⟨x1, x2⟩ hj ⟨hx, hr⟩
    simp only at hx hr
    subst hx
    refine Ok.cond (fun hc => ?_) (fun hc => Ok.inr (by simp only at hc; rw [hr, List.drop_of_length_le (by omega)]; rfl))
    simp only [Int.toNat_natCast] at hc ⊢
    have hj' : j < g.2.length := by omega
    rw [wrap64 (n := (j : Int) + 1) (by omega) (by omega)]
    rw [fstp_drop hj'] at hr
    have hb := hgp _ (getD_mem (z := 0) hj')
    refine Ok.gd (by omega) (Ok.gd (by omega) ?_)
    refine Ok.cond (fun a => Ok.ite (fun e => by omega) (fun _ => Ok.inr ?_)) (fun a => Ok.inl ⟨hj', by simp, ?_⟩)
    · rw [if_pos a] at hr
      exact ⟨_, hr, by rw [tdiv_ok a hb.2 p1]⟩
    · rw [if_neg (by simpa using a)] at hr; exact hr
  · refine Ok.elim (fun v e => ?_) (fun v e => ?_)
    · subst e
      have hy : fstp g.2 = none := hy
      rw [hy]; exact Ok.some rfl
    · subst e
      obtain ⟨p, h1, h2⟩ := hy
      rw [h1]; exact Ok.some (by rw [h2])

theorem m13_spec (n : Int) : m13 ((P, (L, (K, (D, (H, (S, G)))))), (n, ())) = some (wantS P L K D H S G n) := by
  apply ok_eq
  unfold m13 wantS
  by_cases h : Good P L K D H S G
  rotate_left
  · rw [m25_bad h]
    simp only [Option.bind_some]
    refine Ok.ncond (fun _ => Ok.some ?_) (fun h1 => by simp at h1)
    rw [if_pos h]
  rw [m25_good h, if_neg (Classical.not_not.2 h)]
  simp only [Option.bind_some]
  obtain ⟨s1, s2, s3, s4⟩ := h.sz
  obtain ⟨p1, p2, p3, p4, p5, p6⟩ := h.li.sh
  refine Ok.ncond (fun h1 => absurd trivial h1) (fun _ => ?_)
  rw [wrap64 (n := ((H.length : Nat) : Int) - 1) (by omega) (by omega), m40_eq]
  simp only [Option.bind_some]
  refine Ok.ncond (fun h1 => Ok.some ?_) (fun h1 => ?_)
  · rw [if_pos (fun g => h1 (by omega))]
  rw [if_neg (Classical.not_not.2 ⟨h1.1, by omega⟩)]
  refine Ok.ite (fun e => by have e : P = 0 := e; omega) (fun _ => Ok.ite (fun e => by have e : P = 0 := e; omega) (fun _ => ?_))
  rw [tdiv_ok h1.1 (by omega) p1, m41_spec h, m42_spec h]
  simp only [Option.bind_some]
  refine Ok.cond (fun a => Ok.some ?_) (fun a => ?_)
  · rw [if_pos a]
  rw [if_neg a]
  refine Ok.cond (fun b => Ok.cond (fun c => Ok.cond (fun d => Ok.some ?_) (fun d => Ok.some ?_)) (fun c => Ok.some ?_)) (fun b => Ok.some ?_)
  · rw [if_pos ⟨b, c, d⟩]
  · rw [if_neg (fun g => d g.2.2)]
  · rw [if_neg (fun g => c g.2.1)]
  · rw [if_neg (fun g => b g.1)]

end

end Go.Proofs.Ytecadglgkhfaaaa
end

section
namespace Go.Proofs.Ytecadglgkhfaaaa
open Go Go.Proofs.AM

theorem pos_map {n : Int} (F : Int → Int) (h : ∀ p, F p = n ↔ p = n) : ∀ l : List Int, pos n (l.map F) = pos n l
  | [] => rfl
  | x :: l => by
    rw [List.map_cons, pos, pos, pos_map F h l]
    by_cases e : x = n
    · rw [if_pos e, if_pos ((h x).2 e)]
    · rw [if_neg e, if_neg (fun g => e ((h x).1 g))]

theorem loc_fgc {n : Int} (c : Int → Bool) (h0 : 0 ≤ n) (hc : c n = false) : ∀ G : List Log, loc n (G.map (fgc c)) = loc n G
  | [] => rfl
  | g :: G => by
    rw [List.map_cons, loc, loc, loc_fgc c h0 hc G]
    have : pos n (fgc c g).2 = pos n g.2 := pos_map _ (fun p => by
      by_cases e : c p = true
      · simp only [e, if_true]
        exact ⟨fun g => by omega, fun g => by subst g; rw [hc] at e; simp at e⟩
      · simp only [if_neg e]) g.2
    rw [this]; rfl

theorem loc_gone {n : Int} (c : Int → Bool) (h0 : 0 ≤ n) (hc : c n = true) (G : List Log) : loc n (G.map (fgc c)) = none := by
  rw [loc_none]
  intro g hg hn
  obtain ⟨g', hg', rfl⟩ := List.mem_map.1 hg
  obtain ⟨p, hp, e⟩ := List.mem_map.1 hn
  by_cases h : c p = true
  · rw [if_pos h] at e; omega
  · rw [if_neg h] at e; subst e; exact h hc

theorem pos_app_none {n v : Int} (h : v ≠ n) : ∀ l : List Int, pos n (l ++ [v]) = pos n l
  | [] => by simp [pos, h]
  | x :: l => by rw [List.cons_append, pos, pos, pos_app_none h l]

theorem pos_app_some {n : Int} : ∀ l : List Int, n ∉ l → pos n (l ++ [n]) = some l.length
  | [], _ => by simp [pos]
  | x :: l, h => by
    rw [List.mem_cons, not_or] at h
    rw [List.cons_append, pos, if_neg (fun e => h.1 e.symm), pos_app_some l h.2]; rfl

theorem loc_addLast {n v : Int} (h : v ≠ n) (A : List Log) (g : Log) : loc n (addLast (A ++ [g]) v) = loc n (A ++ [g]) := by
  rw [addLast_snoc, loc_app, loc_app]
  simp only [loc]
  rw [pos_app_none h]

theorem loc_addLast_self {n : Int} (A : List Log) (g : Log) (h : loc n (A ++ [g]) = none) : loc n (addLast (A ++ [g]) n) = some (g.1, (g.2.length : Int)) := by
  rw [loc_none] at h
  rw [addLast_snoc, loc_app, loc_none.2 (fun x hx => h x (by simp [hx]))]
  simp only [loc]
  rw [pos_app_some _ (h g (by simp))]; rfl

theorem loc_neg {n : Int} {g : Log} {G : List Log} (h0 : 0 ≤ n) (h : ∀ p ∈ g.2, p < 0) : loc n (g :: G) = loc n G := by
  rw [loc, pos_none.2 (fun hm => by have := h n hm; omega)]

section
variable {P L K : Int} {D : List Int} {H : List Bool} {S : Int × (Int × Int)} {G : List Log}

theorem good_openSeq (h : Good P L K D H S G) {ph b : Int} (hS : S.1 < 0) (h0 : 0 ≤ b) (h1 : b < L) (hf : fresh D S G ph) : Good P L K D H (ph, (b, 0)) G := by
  obtain ⟨p1, p2, p3, p4, p5, p6⟩ := h.li.sh
  refine ⟨⟨h.li.sh, h.li.dl, h.li.hl, h.li.gl, h.li.lg, .inr ⟨hf.1, hf.2.1, h0, h1, by simp, by simp only; omega⟩⟩, h.d1, h.hd, ?_, h.np⟩
  have hb := h.nb
  have hn := hf.2.2
  unfold blocks at hn
  rw [List.cons_append, posi_cons, if_neg (by omega)] at hb hn
  rw [List.cons_append, posi_cons, if_pos hf.1]
  exact List.nodup_cons.2 ⟨hn, hb⟩

theorem getD_app_left {A : Type} {l m : List A} {i : Nat} {z : A} (h : i < l.length) : (l ++ m).getD i z = l.getD i z := by
  simp only [List.getD_eq_getElem?_getD, List.getElem?_append_left h]

theorem getD_app_last {A : Type} {l : List A} {x z : A} : (l ++ [x]).getD l.length z = x := by simp

theorem good_openRand (h : Good P L K D H S G) {ph : Int} (hK : (G.length : Int) < K) (hr : room P G = false) (hf : fresh D S G ph) : Good P L K D H S (G ++ [(ph, [])]) := by
  obtain ⟨p1, p2, p3, p4, p5, p6⟩ := h.li.sh
  refine ⟨⟨h.li.sh, h.li.dl, h.li.hl, by simp; omega, fun i hi => ?_, h.li.sq⟩, h.d1, h.hd, ?_, by simpa using h.np⟩
  · simp only [List.length_append, List.length_singleton] at hi ⊢
    by_cases e : i < G.length
    · rw [getD_app_left e]
      have k := h.li.lg i e
      refine ⟨k.p0, k.p1, k.le, fun h2 => ?_, k.pg⟩
      by_cases e2 : i + 1 < G.length
      · exact k.eq e2
      · have e3 : i = G.length - 1 := by omega
        unfold room at hr
        simp only [decide_eq_false_iff_not, not_and, Int.not_lt] at hr
        have := hr (by omega)
        rw [← e3] at this
        have := k.le
        omega
    · have e3 : i = G.length := by omega
      subst e3
      rw [getD_app_last]
      exact ⟨hf.1, hf.2.1, by simp only [List.length_nil]; omega, fun h2 => by omega, fun j hj => by simp at hj⟩
  · have hb := h.nb
    have hn := hf.2.2
    unfold blocks at hn
    rw [List.map_append, ← List.append_assoc]
    exact (nodup_pos hf.1).2 ⟨hb, hn⟩

theorem flatMap_fgc (c : Int → Bool) : ∀ G : List Log, (G.map (fgc c)).flatMap (·.2) = (G.flatMap (·.2)).map (fun p => if c p = true then -1 else p)
  | [] => rfl
  | g :: G => by
    rw [List.map_cons, List.flatMap_cons, List.flatMap_cons, List.map_append, flatMap_fgc c G]; rfl

theorem posi_map_sub (c : Int → Bool) : ∀ l : List Int, (posi (l.map (fun p => if c p = true then -1 else p))).Sublist (posi l)
  | [] => List.Sublist.refl _
  | x :: l => by
    rw [List.map_cons, posi_cons, posi_cons]
    have ih := posi_map_sub c l
    by_cases h : c x = true
    · rw [if_pos h, if_neg (by simp)]
      split
      · exact List.Sublist.cons _ ih
      · exact ih
    · rw [if_neg h]
      split
      · exact List.Sublist.cons_cons _ ih
      · exact ih

theorem getD_map {A B : Type} (F : A → B) {l : List A} {j : Nat} {z : B} {y : A} (h : j < l.length) : (l.map F).getD j z = F (l.getD j y) := by
  simp only [List.getD_eq_getElem?_getD, List.getElem?_map, List.getElem?_eq_getElem h, Option.map_some, Option.getD_some]

theorem good_forget (c : Int → Bool) (h : Good P L K D H S G) : Good P L K D H S (G.map (fgc c)) := by
  have hm := shape_mul h.li.sh
  have hfst : (G.map (fgc c)).map (·.1) = G.map (·.1) := by rw [List.map_map]; rfl
  refine ⟨⟨h.li.sh, h.li.dl, h.li.hl, by simpa using h.li.gl, fun i hi => ?_, h.li.sq⟩, h.d1, h.hd, by rw [hfst]; exact h.nb, ?_⟩
  · rw [List.length_map] at hi ⊢
    have k := h.li.lg i hi
    have e : (G.map (fgc c)).getD i (0, []) = fgc c (G.getD i (0, [])) := by
      simp only [List.getD_eq_getElem?_getD, List.getElem?_map, List.getElem?_eq_getElem hi, Option.map_some, Option.getD_some]
    rw [e]
    refine ⟨k.p0, k.p1, by simpa [fgc] using k.le, fun h2 => by simpa [fgc] using k.eq h2, fun j hj => ?_⟩
    have hj' : j < (G.getD i (0, [])).2.length := by simpa [fgc] using hj
    have hp := k.pg j hj'
    have e2 : (fgc c (G.getD i (0, []))).2.getD j 0 = if c ((G.getD i (0, [])).2.getD j 0) = true then -1 else (G.getD i (0, [])).2.getD j 0 := by
      exact getD_map _ hj'
    rw [e2]
    split
    · omega
    · exact hp
  · rw [flatMap_fgc]
    exact (posi_map_sub c _).nodup h.np

theorem good_putSeq (h : Good P L K D H S G) (hS : 0 ≤ S.1) (hu : S.2.2 < P) : Good P L K D H (S.1, (S.2.1, S.2.2 + 1)) G := by
  refine ⟨⟨h.li.sh, h.li.dl, h.li.hl, h.li.gl, h.li.lg, ?_⟩, h.d1, h.hd, h.nb, h.np⟩
  rcases h.li.sq with e | e
  · rw [e] at hS; simp at hS
  · exact .inr ⟨e.1, e.2.1, e.2.2.1, e.2.2.2.1, by simp only; omega, by simp only; omega⟩

theorem good_addLast {A : List Log} {g : Log} (h : Good P L K D H S (A ++ [g])) (hr : room P (A ++ [g]) = true) {v : Int} (h0 : -1 ≤ v) (h1 : v < P * L) (hn : 0 ≤ v → loc v (A ++ [g]) = none) : Good P L K D H S (addLast (A ++ [g]) v) := by
  have hle : (g.2.length : Int) < P := by
    unfold room at hr
    simp only [decide_eq_true_eq] at hr
    have e : (A ++ [g]).length - 1 = A.length := by simp
    rw [e, getD_app_last] at hr
    exact hr.2
  rw [addLast_snoc]
  have hl1 : (A ++ [g]).length = A.length + 1 := by simp
  have hl2 : (A ++ [(g.1, g.2 ++ [v])]).length = A.length + 1 := by simp
  refine ⟨⟨h.li.sh, h.li.dl, h.li.hl, by rw [hl2, ← hl1]; exact h.li.gl, fun i hi => ?_, h.li.sq⟩, h.d1, h.hd, by have := h.nb; simpa using this, ?_⟩
  · rw [hl2] at hi ⊢
    have k := h.li.lg i (by rw [hl1]; exact hi)
    rw [hl1] at k
    by_cases e : i < A.length
    · rw [getD_app_left e] at k ⊢; exact k
    · obtain rfl : i = A.length := by omega
      rw [getD_app_last] at k ⊢
      refine ⟨k.p0, k.p1, by simp only [List.length_append, List.length_singleton]; omega, fun h2 => by omega, fun j hj => ?_⟩
      simp only [List.length_append, List.length_singleton] at hj
      by_cases e2 : j < g.2.length
      · rw [getD_app_left e2]; exact k.pg j e2
      · obtain rfl : j = g.2.length := by omega
        rw [getD_app_last]; exact ⟨h0, h1⟩
  · have e : (A ++ [(g.1, g.2 ++ [v])]).flatMap (·.2) = (A ++ [g]).flatMap (·.2) ++ [v] := by simp
    rw [e]
    by_cases hv : 0 ≤ v
    · rw [nodup_pos hv]
      refine ⟨h.np, fun hm => ?_⟩
      obtain ⟨x, hx, hvx⟩ := List.mem_flatMap.1 (mem_posi.1 hm).1
      exact loc_none.1 (hn hv) x hx hvx
    · rw [posi_neg (by omega)]; exact h.np

theorem good_drop {g : Log} (h : Good P L K D H S (g :: G)) : Good P L K D H S G := by
  have hgl := h.li.gl
  simp only [List.length_cons] at hgl
  refine ⟨⟨h.li.sh, h.li.dl, h.li.hl, by omega, fun i hi => ?_, h.li.sq⟩, h.d1, h.hd, ?_, ?_⟩
  · have k := h.li.lg (i + 1) (by simp; omega)
    have e : (g :: G).getD (i + 1) (0, []) = G.getD i (0, []) := rfl
    rw [e, List.length_cons] at k
    exact ⟨k.p0, k.p1, k.le, fun h2 => k.eq (by omega), k.pg⟩
  · refine List.Sublist.nodup (List.Sublist.filter _ ?_) h.nb
    exact List.Sublist.append (List.Sublist.refl _) (List.sublist_cons_self _ _)
  · have := h.np
    rw [List.flatMap_cons, posi_app] at this
    exact (List.nodup_append.1 this).2.1
end

section
open Classical
variable (P L K : Int) (D : List Int) (H : List Bool) (S : Int × (Int × Int)) (G : List Log)

noncomputable def dropS : Tab × (Int × (Int × Unit)) :=
  if ¬ Good P L K D H S G then (zeroT, (0, (50, ())))
  else match G with
    | [] => (zeroT, (0, (51, ())))
    | g :: G' => if ∃ p ∈ g.2, 0 ≤ p then (zeroT, (0, (51, ()))) else ((P, (L, (K, (D, (H, (S, G')))))), (g.1, (0, ())))
end

section
variable {P L K : Int} {D : List Int} {H : List Bool} {S : Int × (Int × Int)} {G : List Log}

theorem m24_spec : m24 ((P, (L, (K, (D, (H, (S, G)))))), ()) = some (dropS P L K D H S G) := by
  apply ok_eq
  unfold m24
  unfold dropS
  by_cases h : Good P L K D H S G
  rotate_left
  · rw [m25_bad h]
    simp only [Option.bind_some]
    refine Ok.ncond (fun _ => Ok.some ?_) (fun h1 => by simp at h1)
    rw [if_pos h]; rfl
  rw [m25_good h, if_neg (Classical.not_not.2 h)]
  simp only [Option.bind_some]
  obtain ⟨s1, s2, s3, s4⟩ := h.sz
  refine Ok.ncond (fun h1 => absurd trivial h1) (fun _ => ?_)
  cases G with
  | nil => exact Ok.cond (fun _ => Ok.some rfl) (fun h => by simp at h)
  | cons g G =>
    refine Ok.cond (fun h => by simp at h; omega) (fun _ => ?_)
    simp only [List.length_cons] at s3
    refine Ok.gd (by simp only [List.length_cons]; omega) ?_
    rw [clo_eq P L K D H S (g :: G) (by simp; omega) (fun i hi => by have := s4 i hi; omega)]
    have e0 : (g :: G).getD (Int.toNat 0) (0, []) = g := rfl
    simp only [e0, Option.bind_some]
    have hgl := h.el g (by simp)
    refine Ok.bind (S := fun e => match e with | .inl _ => ¬ ∃ p ∈ g.2, 0 ≤ p | .inr v => 0 ≤ v ∧ ∃ p ∈ g.2, 0 ≤ p) (Ok.loop g.2.length (fun j x => x = (j : Int) ∧ ∀ k, k < j → g.2.getD k 0 < 0) ⟨rfl, fun k hk => by omega⟩ ?_) fun y hy => ?_
    · rintro j x hj ⟨rfl, hr⟩
      refine Ok.cond (fun hc => ?_) (fun hc => Ok.inr ?_)
      rotate_left
      · rintro ⟨p, hp, h0⟩
        obtain ⟨k, hk, e⟩ := List.getElem_of_mem hp
        have := hr k (by omega)
        rw [List.getD_eq_getElem?_getD, List.getElem?_eq_getElem hk, Option.getD_some] at this
        omega
      simp only [Int.toNat_natCast] at hc ⊢
      rw [wrap64 (n := (j : Int) + 1) (by omega) (by omega)]
      refine Ok.gd (by omega) (Ok.gd (by omega) ?_)
      refine Ok.cond (fun a => Ok.inr ⟨by omega, _, getD_mem (by omega), a⟩) (fun a => Ok.inl ⟨by omega, by omega, fun k hk => ?_⟩)
      by_cases e : k = j
      · subst e; omega
      · exact hr k (by omega)
    · refine Ok.elim (fun v e => ?_) (fun v e => ?_)
      · subst e
        have hy : ¬ ∃ p ∈ g.2, 0 ≤ p := hy
        rw [if_neg hy]
        refine Ok.cond (fun h => by omega) (fun _ => ?_)
        refine Ok.gd (by omega) (Ok.gd (by omega) (Ok.gd (by omega) (Ok.gd (by omega) (Ok.gd (by omega) (Ok.gd (by omega) ?_)))))
        refine Ok.gd (by simp only [List.length_cons]; omega) (Ok.gd (by simp) (Ok.gd (by simp only [List.length_cons]; omega) (Ok.gd (by omega) (Ok.some ?_))))
        have e1 : List.take ((Int.toNat (((g :: G).length : Nat) : Int)) - (Int.toNat 1)) (List.drop (Int.toNat 1) (g :: G)) = G := by
          show List.take ((g :: G).length - 1) G = G
          simp
        rw [e1]
        rfl
      · subst e
        refine Ok.cond (fun _ => Ok.some ?_) (fun h => absurd hy.1 h)
        rw [if_pos hy.2]; rfl
end

section
variable {Q : Nat} {L K : Int} {D : List Int} {H : List Bool} {S : Int × (Int × Int)} {G : List Log}

theorem open_keeps (h : Good Q L K D H S G) (s : Int × Int) (ph : Int) (he : (openS Q L K D H S G s ph).2.1 = 0) :
    ∃ S' G', (openS Q L K D H S G s ph).1 = ((Q : Int), (L, (K, (D, (H, (S', G')))))) ∧ Good Q L K D H S' G' ∧ ∀ n : Nat, n < H.length → wh Q D H S G n = wh Q D H S' G' n := by
  unfold openS at he ⊢
  rw [if_neg (Classical.not_not.2 h)] at he ⊢
  by_cases hf : fresh D S G ph
  rotate_left
  · rw [if_pos hf] at he; simp at he
  rw [if_neg (Classical.not_not.2 hf)] at he ⊢
  by_cases c1 : s.1 = 3 ∧ S.1 < 0 ∧ 0 ≤ s.2 ∧ s.2 < L
  · rw [if_pos c1] at he ⊢
    refine ⟨_, _, rfl, good_openSeq h c1.2.1 c1.2.2.1 c1.2.2.2 hf, fun n hn => ?_⟩
    unfold wh
    cases loc n G with
    | some p => rfl
    | none =>
      have := c1.2.1
      have n1 : ¬ (0 ≤ S.1 ∧ S.2.1 = ((n / Q : Nat) : Int) ∧ ((n % Q : Nat) : Int) < S.2.2) := fun g => by omega
      have n2 : ¬ (0 ≤ ph ∧ s.2 = ((n / Q : Nat) : Int) ∧ ((n % Q : Nat) : Int) < 0) := fun g => by omega
      simp only
      rw [if_neg n1, if_neg n2]
  rw [if_neg c1] at he ⊢
  by_cases c2 : s.1 = 4 ∧ (G.length : Int) < K ∧ room Q G = false
  · rw [if_pos c2] at he ⊢
    refine ⟨_, _, rfl, good_openRand h c2.2.1 c2.2.2 hf, fun n hn => ?_⟩
    unfold wh
    rw [loc_app]
    have : loc (n : Int) [(ph, [])] = none := rfl
    rw [this, Option.or_none]
  · rw [if_neg c2] at he; simp at he

theorem snoc_of {G : List Log} (h : 0 < G.length) : ∃ A g, G = A ++ [g] :=
  ⟨G.dropLast, G.getLast (by intro e; rw [e] at h; simp at h), (List.dropLast_concat_getLast _).symm⟩

theorem room_pos {P : Int} {G : List Log} (h : room P G = true) : 0 < G.length := by
  unfold room at h; simp only [decide_eq_true_eq] at h; exact h.1

theorem put_keeps (h : Good Q L K D H S G) (s : Int × Int) (n : Int) (he : (putS Q L K D H S G s n).2.2.1 = 0) :
    ∃ (S' : Int × (Int × Int)) (G' : List Log) (m : Nat), n = m ∧ m < H.length ∧ (putS Q L K D H S G s n).1 = ((Q : Int), (L, (K, (D, (H, (S', G')))))) ∧ Good Q L K D H S' G' ∧ wh Q D H S' G' m = ((putS Q L K D H S G s n).2.1, (true, ())) ∧ ∀ k : Nat, k < H.length → k ≠ m → wh Q D H S G k = wh Q D H S' G' k := by
  unfold putS at he ⊢
  rw [if_neg (Classical.not_not.2 h)] at he ⊢
  by_cases hr : 0 ≤ n ∧ n < H.length
  rotate_left
  · rw [if_pos hr] at he; simp at he
  rw [if_neg (Classical.not_not.2 hr)] at he ⊢
  obtain ⟨m, rfl⟩ : ∃ m : Nat, n = m := ⟨n.toNat, by omega⟩
  have hG' := good_forget (isn (m : Int)) h
  have hgone : loc (m : Int) (G.map (fgc (isn (m : Int)))) = none := loc_gone _ (by omega) (by simp [isn]) G
  have hsame : ∀ k : Nat, k ≠ m → loc (k : Int) (G.map (fgc (isn (m : Int)))) = loc (k : Int) G := fun k hk => loc_fgc _ (by omega) (by simp [isn]; omega) G
  have hlen : (G.map (fgc (isn (m : Int)))).length = G.length := List.length_map ..
  have hrm := room_fgc Q (isn (m : Int)) G
  have hQ := h.li.sh.1
  simp only [div_mod.1, div_mod.2] at he ⊢
  by_cases c1 : s.1 = 1 ∧ 0 ≤ S.1 ∧ S.2.1 = ((m / Q : Nat) : Int) ∧ S.2.2 = ((m % Q : Nat) : Int)
  · rw [if_pos c1] at he ⊢
    obtain ⟨e1, e2, e3, e4⟩ := c1
    have hmod : m % Q < Q := Nat.mod_lt _ (by omega)
    refine ⟨_, _, m, rfl, by omega, rfl, good_putSeq hG' e2 (by rw [e4]; omega), ?_, fun k hk hne => ?_⟩
    · unfold wh
      rw [hgone]
      simp only
      rw [if_pos ⟨e2, e3, by rw [e4]; omega⟩, e4]
    · unfold wh
      rw [hsame k hne]
      cases loc (k : Int) G with
      | some p => rfl
      | none =>
        simp only
        by_cases c : 0 ≤ S.1 ∧ S.2.1 = ((k / Q : Nat) : Int) ∧ ((k % Q : Nat) : Int) < S.2.2
        · rw [if_pos c, if_pos ⟨c.1, c.2.1, by omega⟩]
        · have c' : ¬ (0 ≤ S.1 ∧ S.2.1 = ((k / Q : Nat) : Int) ∧ ((k % Q : Nat) : Int) < S.2.2 + 1) := ?_
          · rw [if_neg c, if_neg c']
          rintro ⟨g1, g2, g3⟩
          refine c ⟨g1, g2, ?_⟩
          by_cases e : k % Q = m % Q
          · have e5 : k / Q = m / Q := by omega
            exact absurd (by rw [← Nat.div_add_mod k Q, ← Nat.div_add_mod m Q, e, e5]) hne
          · omega
  rw [if_neg c1] at he ⊢
  by_cases c2 : s.1 = 2 ∧ room Q G = true
  · rw [if_pos c2] at he ⊢
    obtain ⟨A, g, hAg⟩ := snoc_of (by rw [hlen]; exact room_pos c2.2 : 0 < (G.map (fgc (isn (m : Int)))).length)
    have hl2 : G.length - 1 = A.length := by rw [← hlen, hAg]; simp
    rw [hAg] at hgone hG' hrm hsame
    simp only [hAg, hl2]
    have hlt : (m : Int) < Q * L := by have := h.li.hl; omega
    refine ⟨_, _, m, rfl, by omega, rfl, good_addLast hG' (by rw [hrm]; exact c2.2) (by omega) hlt (fun _ => hgone), ?_, fun k hk hne => ?_⟩
    · unfold wh
      rw [loc_addLast_self A g hgone]
      simp only
      rw [addLast_snoc]
      have e4 : ith (A := Int) (ki := .int .i64) (A ++ [(g.1, g.2 ++ [(m : Int)])]) A.length = g.2 ++ [(m : Int)] := ith_mid A [] _
      have e5 : hth (kh := .int .i64) (ki := .int .i64) (A ++ [(g.1, g.2 ++ [(m : Int)])]) A.length = g.1 := hth_mid A [] _
      rw [e4, e5]
      have e6 : (g.2 ++ [(m : Int)]).length = g.2.length + 1 := by simp
      rw [e6, show ((g.2.length + 1 : Nat) : Int) - 1 = (g.2.length : Int) by omega]
    · unfold wh
      rw [loc_addLast (by omega) A g, hsame k hne]
  · rw [if_neg c2] at he; simp at he

theorem drop_keeps (h : Good Q L K D H S G) (he : (dropS Q L K D H S G).2.2.1 = 0) :
    ∃ S' G', (dropS Q L K D H S G).1 = ((Q : Int), (L, (K, (D, (H, (S', G')))))) ∧ Good Q L K D H S' G' ∧ ∀ n : Nat, n < H.length → wh Q D H S G n = wh Q D H S' G' n := by
  unfold dropS at he ⊢
  rw [if_neg (Classical.not_not.2 h)] at he ⊢
  cases G with
  | nil => simp at he
  | cons g G =>
    simp only at he ⊢
    by_cases c : ∃ p ∈ g.2, 0 ≤ p
    · rw [if_pos c] at he; simp at he
    rw [if_neg c] at he ⊢
    refine ⟨_, _, rfl, good_drop h, fun n hn => ?_⟩
    unfold wh
    rw [loc_neg (by omega) (fun p hp => by
      have : ¬ 0 ≤ p := fun h0 => c ⟨p, hp, h0⟩
      omega)]
end

theorem live_ok : m10 () = some (true, ()) := by
  have sh : shape 4 2 1 := ⟨by omega, by omega, by omega, by omega, by omega, by omega⟩
  have g0 : Good 4 2 1 [-1, -1] [false, false, false, false, false, false, false, false] (-1, (0, 0)) [] := newT_good sh
  have e0 : newT 4 2 1 = (4, (2, (1, ([-1, -1], ([false, false, false, false, false, false, false, false], ((-1, (0, 0)), [])))))) := rfl
  have w : wantS 4 2 1 [-1, -1] [false, false, false, false, false, false, false, false] (-1, (0, 0)) [] 0 = ((3, 0), (0, ())) := by
    unfold wantS seqW
    rw [if_neg (Classical.not_not.2 g0), if_neg (by simp), if_pos (by rfl), if_pos (by simp)]; rfl
  have f : fresh [-1, -1] (-1, (0, 0)) [] 7 := ⟨by omega, by omega, by simp [blocks, posi]⟩
  have o : openS 4 2 1 [-1, -1] [false, false, false, false, false, false, false, false] (-1, (0, 0)) [] (3, 0) 7 = ((4, (2, (1, ([-1, -1], ([false, false, false, false, false, false, false, false], ((7, (0, 0)), [])))))), (0, ())) := by
    unfold openS
    rw [if_neg (Classical.not_not.2 g0), if_neg (Classical.not_not.2 f), if_pos (by simp)]
  have g1 : Good 4 2 1 [-1, -1] [false, false, false, false, false, false, false, false] (7, (0, 0)) [] := good_openSeq g0 (by simp) (by omega) (by omega) f
  have p : putS 4 2 1 [-1, -1] [false, false, false, false, false, false, false, false] (7, (0, 0)) [] (1, 0) 0 = ((4, (2, (1, ([-1, -1], ([false, false, false, false, false, false, false, false], ((7, (0, 1)), [])))))), ((7, 0), (0, ()))) := by
    unfold putS
    rw [if_neg (Classical.not_not.2 g1), if_neg (by simp), if_pos (by simp)]; rfl
  have g2 : Good ((4 : Nat) : Int) 2 1 [-1, -1] [false, false, false, false, false, false, false, false] (7, (0, 1)) [] := good_putSeq g1 (by simp) (by simp)
  have v := m22_good g2 0 (by simp)
  have v' : m22 (((4 : Int), ((2 : Int), ((1 : Int), ([-1, -1], ([false, false, false, false, false, false, false, false], ((7, (0, 1)), [])))))), ((0 : Int), ())) = some ((7, 0), (true, ())) := by
    refine Eq.trans v ?_
    unfold wh
    rw [show loc ((0 : Nat) : Int) [] = none from rfl]
    simp
  unfold m10
  rw [m30_yes sh]
  simp only [Option.bind_some, e0]
  rw [m13_spec, w]
  simp only [Option.bind_some]
  rw [m15_spec, o]
  simp only [Option.bind_some]
  rw [m18_spec, p]
  simp only [Option.bind_some]
  rw [v']
  rfl
end Go.Proofs.Ytecadglgkhfaaaa
end

section
open Go Go.Proofs.AM
namespace Go.Proofs.Ytecadglgkhfaaaa

noncomputable def m27 (x : tT × tT × Int × Int × Unit) : Option (Bool × Unit) :=
 Option.bind (loopM (X := Int) (E := (Unit ⊕ Bool)) (fun (x1 : Int) =>
 bif (decide (x1 < x.1.1)) then
 (Option.bind (m22 (x.1, ((Go.IntKind.wrap .i64 ((Go.IntKind.wrap .i64 (x.2.2.1 * x.1.1)) + x1)), ()))) fun (y2 : ((Int × Int) × (Bool × Unit))) =>
 Option.bind (m22 (x.2.1, ((Go.IntKind.wrap .i64 ((Go.IntKind.wrap .i64 (x.2.2.1 * x.1.1)) + x1)), ()))) fun (y3 : ((Int × Int) × (Bool × Unit))) =>
 bif (!(bif y2.2.1 then y3.2.1 else (!y3.2.1))) then
 (some (Sum.inr (Sum.inr false)))
 else
 (bif y3.2.1 then
 (bif (!((decide (y3.1.1 = x.2.2.2.1)) && (decide (y3.1.2 = x1)))) then
 (some (Sum.inr (Sum.inr false)))
 else
 (some (Sum.inl (Go.IntKind.wrap .i64 (x1 + (1 : Int))))))
 else
 (some (Sum.inl (Go.IntKind.wrap .i64 (x1 + (1 : Int)))))))
 else
 (some (Sum.inr (Sum.inl ())))) (0 : Int)) fun (y1 : (Unit ⊕ Bool)) =>
 Sum.elim (fun y2 =>
 Option.bind (m23 (x.1, (x.2.1, ((Go.IntKind.wrap .i64 (x.2.2.1 * x.1.1)), ((Go.IntKind.wrap .i64 ((Go.IntKind.wrap .i64 (x.2.2.1 * x.1.1)) + x.1.1)), ()))))) fun (y3 : (Bool × Unit)) =>
 some (y3.1, ())) (fun y2 =>
 some (y2, ())) y1

noncomputable def r27 : PDen [(true, kT), (true, kT), (false, (.int .i64)), (false, (.int .i64))] → Option (PDen [(false, .bool)]) := fun x => afun Try.prog ({ envOf [(22, ⟨[(true, kT), (false, (.int .i64))], [(true, (.pair (.int .i64) (.int .i64))), (false, .bool)], false, m22⟩), (23, ⟨[(true, kT), (true, kT), (false, (.int .i64)), (false, (.int .i64))], [(false, .bool)], false, m23⟩)] [] [] [] with deep := [79] }) ⟨[(0, ⟨[.slot 21 (.d false (.int .i64) true)], [], [(some 0, []), (none, [.slot 8 (.d false .bool true)])], none⟩)], []⟩ Try.f27 [(true, kT), (true, kT), (false, (.int .i64)), (false, (.int .i64))] [(false, .bool)] false x
theorem r27_eq : r27 = m27 := by kernel_rfl

theorem c27 : CS.Sound Try.prog 27 ⟨[(true, kT), (true, kT), (false, (.int .i64)), (false, (.int .i64))], [(false, .bool)], false, m27⟩ := afun_sound' (Env.Sound.deepen (envOf_sound (CSs.cons c22 (CSs.cons c23 (CSs.nil))) (HDs.nil) (IDs.nil)) [79]) rfl Try.follows (f := 27) (fn := Try.f27) Try.func27 (by kernel_rfl) (by kernel_rfl) r27_eq
end Go.Proofs.Ytecadglgkhfaaaa
end

section
open Go Go.Proofs.AM
namespace Go.Proofs.Ytecadglgkhfaaaa

noncomputable def m5 (x : tT × Int × Int × Unit) : Option (Bool × Unit) :=
 Option.bind (m10 ()) fun (y1 : (Bool × Unit)) =>
 bif (!y1.1) then
 (some (false, ()))
 else
 (Option.bind (m11 (x.1, ())) fun (y2 : (Bool × Unit)) =>
 bif (!y2.1) then
 (some (true, ()))
 else
 (Option.bind (m25 (x.1, ())) fun (y3 : (Int × Unit)) =>
 bif (!(decide (y3.1 = (0 : Int)))) then
 (some (true, ()))
 else
 (Option.bind (m26 (x.1, (x.2.1, (x.2.2.1, ())))) fun (y4 : (tT × ((List Int) × (Int × Unit)))) =>
 bif (decide (y4.2.2.1 = (0 : Int))) then
 (Option.bind (m27 (x.1, (y4.1, (x.2.1, (x.2.2.1, ()))))) fun (y5 : (Bool × Unit)) =>
 bif (!y5.1) then
 (some (false, ()))
 else
 (Option.bind (m28 (x.1, ())) fun (y6 : (tT × ((List Int) × (Int × Unit)))) =>
 bif (!(decide (y6.2.2.1 = (0 : Int)))) then
 (some (true, ()))
 else
 (Option.bind (m27 (x.1, (y6.1, (x.1.2.2.2.2.2.1.2.1, (x.1.2.2.2.2.2.1.1, ()))))) fun (y7 : (Bool × Unit)) =>
 some (y7.1, ()))))
 else
 (Option.bind (m28 (x.1, ())) fun (y5 : (tT × ((List Int) × (Int × Unit)))) =>
 bif (!(decide (y5.2.2.1 = (0 : Int)))) then
 (some (true, ()))
 else
 (Option.bind (m27 (x.1, (y5.1, (x.1.2.2.2.2.2.1.2.1, (x.1.2.2.2.2.2.1.1, ()))))) fun (y6 : (Bool × Unit)) =>
 some (y6.1, ()))))))

noncomputable def r5 : PDen [(true, kT), (false, (.int .i64)), (false, (.int .i64))] → Option (PDen [(false, .bool)]) := fun x => afun Try.prog ({ envOf [(10, ⟨[], [(false, .bool)], false, m10⟩), (11, ⟨[(true, kT)], [(false, .bool)], false, m11⟩), (25, ⟨[(true, kT)], [(false, (.int .i64))], false, m25⟩), (26, ⟨[(true, kT), (false, (.int .i64)), (false, (.int .i64))], [(true, kT), (false, (.sl (.int .i64))), (false, (.int .i64))], false, m26⟩), (27, ⟨[(true, kT), (true, kT), (false, (.int .i64)), (false, (.int .i64))], [(false, .bool)], false, m27⟩), (28, ⟨[(true, kT)], [(true, kT), (false, (.sl (.int .i64))), (false, (.int .i64))], false, m28⟩)] [] [] [] with deep := [79] }) ⟨[], []⟩ Try.f5 [(true, kT), (false, (.int .i64)), (false, (.int .i64))] [(false, .bool)] false x
theorem r5_eq : r5 = m5 := by kernel_rfl

theorem c5 : CS.Sound Try.prog 5 ⟨[(true, kT), (false, (.int .i64)), (false, (.int .i64))], [(false, .bool)], false, m5⟩ := afun_sound' (Env.Sound.deepen (envOf_sound (CSs.cons c10 (CSs.cons c11 (CSs.cons c25 (CSs.cons c26 (CSs.cons c27 (CSs.cons c28 (CSs.nil))))))) (HDs.nil) (IDs.nil)) [79]) rfl Try.follows (f := 5) (fn := Try.f5) Try.func5 (by kernel_rfl) (by kernel_rfl) r5_eq
end Go.Proofs.Ytecadglgkhfaaaa
end

section
namespace Go.Proofs.Ytecadglgkhfaaaa
open Go Go.Proofs.AM

def inb (P b : Int) (p : Int) : Bool := decide (0 ≤ p ∧ Int.tdiv p P = b)

theorem m61f_eq (b P : Int) (hP : 4 ≤ P) (G : List Log) (hG : G.length ≤ 100) (hg : ∀ g ∈ G, g.2.length ≤ 32) (hp : ∀ g ∈ G, ∀ p ∈ g.2, p < 8192) : m61f b P G = some (G.map (fgc (inb P b))) := by
  unfold m61f
  refine outer_gen (inb P b) G _ (fun A g B hl hm => ?_) (fun X => ?_)
  rotate_left
  · simp only; rw [decide_eq_false (by omega)]; rfl
  have hgl := hg g hm
  have hgp := hp g hm
  simp only [Int.toNat_natCast]
  rw [decide_eq_true (show (A.length : Int) < (G.length : Int) by omega)]
  simp only [cond_true]
  rw [gd_pos (by omega), gd_pos (by omega), gd_pos (by simp)]
  rw [inner_genp (inb P b) A B g _ (fun j row hj hr hrow => ?_) (fun row hr => ?_)]
  · simp only [Option.bind_some]; rw [wrap64 (by omega) (by omega)]
  · simp only [Int.toNat_natCast, ith_mid, setIn_mid]
    rw [decide_eq_true (show (j : Int) < (g.2.length : Int) by omega)]
    simp only [cond_true]
    rw [gd_pos (by omega), gd_pos (by omega), gd_pos (by omega), wrap64 (n := (j : Int) + 1) (by omega) (by omega)]
    unfold inb
    simp only [Bool.cond_eq_ite, decide_eq_true_eq]
    have hlt : row.getD j 0 < 8192 := by rw [hrow]; exact hgp _ (getD_mem hj)
    have aux : ∀ v : Int, v < 8192 → (if v ≥ 0 then (if P = 0 then none else (if IntKind.wrap .i64 (Int.tdiv v P) = b then gd ((0 : Int) ≤ (j : Int)) (gd ((j : Int) < (row.length : Int)) (gd (j < row.length) (some (Sum.inl ((j : Int) + 1, A ++ (g.1, row.set j (-1)) :: B))))) else some (Sum.inl ((j : Int) + 1, A ++ (g.1, row) :: B)))) else some (Sum.inl ((j : Int) + 1, A ++ (g.1, row) :: B))) = (some (Sum.inl ((j : Int) + 1, A ++ (g.1, if 0 ≤ v ∧ Int.tdiv v P = b then row.set j (-1) else row) :: B)) : Option ((Int × List Log) ⊕ List Log)) := by
      intro v hv
      by_cases h0 : v ≥ 0
      · rw [if_pos h0, if_neg (by omega), tdiv_ok h0 hv hP]
        by_cases h1 : Int.tdiv v P = b
        · rw [if_pos h1, if_pos ⟨h0, h1⟩, gd_pos (by omega), gd_pos (by omega), gd_pos (by omega)]
        · rw [if_neg h1, if_neg (fun k => h1 k.2)]
      · rw [if_neg h0, if_neg (fun k => h0 k.1)]
    exact aux (row.getD j 0) hlt
  · simp only [Int.toNat_natCast, ith_mid]
    rw [decide_eq_false (by omega)]; rfl

def hv (Q : Nat) (D : List Int) (H : List Bool) (S : Int × (Int × Int)) (G : List Log) (b : Nat) : List Bool := (List.range Q).map fun o => (wh Q D H S G (b * Q + o)).2.1

def setH (Q : Nat) (D : List Int) (H : List Bool) (S : Int × (Int × Int)) (G : List Log) (b : Nat) : List Bool := H.take (b * Q) ++ hv Q D H S G b ++ H.drop (b * Q + Q)

open Classical in
noncomputable def setS (S : Int × (Int × Int)) (b : Nat) : Int × (Int × Int) := if 0 ≤ S.1 ∧ S.2.1 = (b : Int) then (-1, (0, 0)) else S

section
variable {Q : Nat} {L K : Int} {D : List Int} {H : List Bool} {S : Int × (Int × Int)} {G : List Log}

theorem hv_len (b : Nat) : (hv Q D H S G b).length = Q := by simp [hv]
theorem hv_get (b o : Nat) (ho : o < Q) : (hv Q D H S G b).getD o false = (wh Q D H S G (b * Q + o)).2.1 := by
  unfold hv
  rw [List.getD_eq_getElem?_getD, List.getElem?_map, List.getElem?_range ho]; rfl

theorem blk_le (h : Good Q L K D H S G) {b : Nat} (hb : (b : Int) < L) : b * Q + Q ≤ H.length ∧ H.length ≤ 8192 := by
  have hm := shape_mul h.li.sh
  have hl := h.li.hl
  have : ((b + 1 : Nat) : Int) * Q ≤ L * Q := Int.mul_le_mul_of_nonneg_right (by omega) (by omega)
  have e : (((b + 1) * Q : Nat) : Int) = ((b + 1 : Nat) : Int) * Q := by simp
  have e2 : (b + 1) * Q = b * Q + Q := by rw [Nat.add_mul, Nat.one_mul]
  omega

theorem setH_len (h : Good Q L K D H S G) {b : Nat} (hb : (b : Int) < L) : (setH Q D H S G b).length = H.length := by
  have := blk_le h hb
  unfold setH
  simp only [List.length_append, List.length_take, List.length_drop, hv_len]
  omega

theorem setH_in (h : Good Q L K D H S G) {b : Nat} (hb : (b : Int) < L) {o : Nat} (ho : o < Q) : (setH Q D H S G b).getD (b * Q + o) false = (wh Q D H S G (b * Q + o)).2.1 := by
  have hle := blk_le h hb
  rw [← hv_get (D := D) (H := H) (S := S) (G := G) b o ho]
  unfold setH
  have l1 : (H.take (b * Q)).length = b * Q := by simp; omega
  simp only [List.getD_eq_getElem?_getD]
  rw [List.append_assoc, List.getElem?_append_right (by omega), l1, List.getElem?_append_left (by rw [hv_len]; omega)]
  congr 2; omega

theorem setH_out (h : Good Q L K D H S G) {b : Nat} (hb : (b : Int) < L) {n : Nat} (hn : n < b * Q ∨ b * Q + Q ≤ n) : (setH Q D H S G b).getD n false = H.getD n false := by
  have hle := blk_le h hb
  unfold setH
  have l1 : (H.take (b * Q)).length = b * Q := by simp; omega
  simp only [List.getD_eq_getElem?_getD]
  rcases hn with hn | hn
  · rw [List.append_assoc, List.getElem?_append_left (by omega), List.getElem?_take_of_lt hn]
  · rw [List.getElem?_append_right (by rw [List.length_append, l1, hv_len]; omega), List.length_append, l1, hv_len, List.getElem?_drop]
    congr 2; omega

theorem div_in {b o : Nat} (ho : o < Q) : (b * Q + o) / Q = b ∧ (b * Q + o) % Q = o := by
  constructor
  · rw [Nat.mul_comm, Nat.mul_add_div (by omega), Nat.div_eq_of_lt ho]; rfl
  · rw [Nat.mul_comm, Nat.mul_add_mod, Nat.mod_eq_of_lt ho]

theorem div_out {b n : Nat} (hQ : 0 < Q) : n / Q ≠ b ↔ n < b * Q ∨ b * Q + Q ≤ n := by
  have h1 := Nat.div_add_mod n Q
  have h2 := Nat.mod_lt n hQ
  obtain ⟨q, hq⟩ : ∃ q, n / Q = q := ⟨_, rfl⟩
  rw [hq] at h1 ⊢
  rw [Nat.mul_comm] at h1
  constructor
  · intro h
    rcases Nat.lt_or_gt_of_ne h with g | g
    · left
      have : (q + 1) * Q ≤ b * Q := Nat.mul_le_mul_right Q g
      rw [Nat.add_mul, Nat.one_mul] at this; omega
    · right
      have : (b + 1) * Q ≤ q * Q := Nat.mul_le_mul_right Q g
      rw [Nat.add_mul, Nat.one_mul] at this; omega
  · rintro h rfl
    omega

theorem good_settle (h : Good Q L K D H S G) {b : Nat} (hb : (b : Int) < L) {ph : Int} (h0 : 0 ≤ ph) (h1 : ph ≤ 255) (hn : ph ∉ posi ((setS S b).1 :: (D.take b ++ D.drop (b + 1)) ++ G.map (·.1))) :
    Good Q L K (D.set b ph) (setH Q D H S G b) (setS S b) (G.map (fgc (inb Q b))) := by
  have hf := good_forget (inb Q b) h
  have hDl := h.li.dl
  have hbD : b < D.length := by omega
  have hQ : 0 < Q := by have := h.li.sh.1; omega
  have hS : (setS S b).1 = -1 ∨ (setS S b).1 = S.1 := by
    unfold setS; split
    · exact .inl rfl
    · exact .inr rfl
  refine ⟨⟨h.li.sh, by rw [List.length_set]; exact hDl, by rw [setH_len h hb]; exact h.li.hl, hf.li.gl, hf.li.lg, ?_⟩, fun i hi => ?_, fun p hp hv => ?_, ?_, hf.np⟩
  · unfold setS; split
    · exact .inl rfl
    · exact h.li.sq
  · rw [List.length_set] at hi
    rw [getD_set _ _ _ _ _ hbD]
    split
    · omega
    · exact h.d1 i hi
  · rw [setH_len h hb] at hp
    simp only [Int.toNat_natCast]
    rw [getD_set _ _ _ _ _ hbD]
    by_cases e : b = p / Q
    · rw [if_pos e]; exact h0
    · rw [if_neg e]
      rw [setH_out h hb ((div_out hQ).1 (fun g => e g.symm))] at hv
      have := h.hd p hp hv
      simpa using this
  · have hfst : (G.map (fgc (inb Q b))).map (·.1) = G.map (·.1) := by rw [List.map_map]; rfl
    rw [hfst]
    have e1 : D.set b ph = D.take b ++ ph :: D.drop (b + 1) := by rw [List.set_eq_take_append_cons_drop, if_pos hbD]
    have e2 : D = D.take b ++ D.getD b 0 :: D.drop (b + 1) := by
      rw [← getD_cons_drop hbD, List.take_append_drop]
    have hp : (posi ((setS S b).1 :: D.set b ph ++ G.map (·.1))).Perm (ph :: posi ((setS S b).1 :: (D.take b ++ D.drop (b + 1)) ++ G.map (·.1))) := by
      have : ((setS S b).1 :: D.set b ph ++ G.map (·.1)).Perm (ph :: ((setS S b).1 :: (D.take b ++ D.drop (b + 1)) ++ G.map (·.1))) := by
        rw [e1]
        simp only [List.cons_append, List.append_assoc]
        refine List.Perm.trans (List.Perm.cons _ List.perm_middle) ?_
        exact List.Perm.swap _ _ _
      have := posi_perm this
      rw [posi_cons, if_pos h0] at this
      exact this
    rw [hp.nodup_iff, List.nodup_cons]
    refine ⟨hn, ?_⟩
    have hb0 := h.nb
    have sub : (posi ((setS S b).1 :: (D.take b ++ D.drop (b + 1)) ++ G.map (·.1))).Sublist (posi (S.1 :: D ++ G.map (·.1))) := by
      have sD : (D.take b ++ D.drop (b + 1)).Sublist D := by
        conv => rhs; rw [e2]
        exact List.Sublist.append (List.Sublist.refl _) (List.sublist_cons_self _ _)
      have s2 : (posi ((D.take b ++ D.drop (b + 1)) ++ G.map (·.1))).Sublist (posi (D ++ G.map (·.1))) := List.Sublist.filter _ (List.Sublist.append sD (List.Sublist.refl _))
      simp only [List.cons_append]
      rw [posi_cons, posi_cons]
      rcases hS with e | e
      · rw [e, if_neg (by simp)]
        split
        · exact List.Sublist.cons _ s2
        · exact s2
      · rw [e]
        split
        · exact List.Sublist.cons_cons _ s2
        · exact s2
    exact sub.nodup hb0

theorem wh_settle_in (h : Good Q L K D H S G) {b : Nat} (hb : (b : Int) < L) {ph : Int} {o : Nat} (ho : o < Q) :
    wh Q (D.set b ph) (setH Q D H S G b) (setS S b) (G.map (fgc (inb Q b))) (b * Q + o) = if (wh Q D H S G (b * Q + o)).2.1 = true then ((ph, (o : Int)), (true, ())) else ((0, 0), (false, ())) := by
  have hDl := h.li.dl
  have hbD : b < D.length := by omega
  have hd := div_in (Q := Q) (b := b) ho
  have hg : loc ((b * Q + o : Nat) : Int) (G.map (fgc (inb Q b))) = none := loc_gone _ (by omega) (by
    unfold inb
    rw [decide_eq_true_eq, div_mod.1, hd.1]
    exact ⟨by omega, rfl⟩) G
  obtain ⟨w, hw⟩ : ∃ w, w = (wh Q D H S G (b * Q + o)).2.1 := ⟨_, rfl⟩
  conv => lhs; unfold wh
  rw [hg]
  simp only
  rw [hd.1, hd.2]
  have nS : ¬ (0 ≤ (setS S b).1 ∧ (setS S b).2.1 = (b : Int) ∧ (o : Int) < (setS S b).2.2) := by
    rintro ⟨g1, g2, _⟩
    unfold setS at g1 g2
    split at g1
    · simp at g1
    · rename_i hc
      rw [if_neg hc] at g2
      exact hc ⟨g1, g2⟩
  rw [if_neg nS, setH_in h hb ho, getD_set _ _ _ _ _ hbD, if_pos rfl]

theorem wh_settle_out (h : Good Q L K D H S G) {b : Nat} (hb : (b : Int) < L) {ph : Int} {n : Nat} (hn : n / Q ≠ b) :
    wh Q D H S G n = wh Q (D.set b ph) (setH Q D H S G b) (setS S b) (G.map (fgc (inb Q b))) n := by
  have hDl := h.li.dl
  have hbD : b < D.length := by omega
  have hQ : 0 < Q := by have := h.li.sh.1; omega
  have hg : loc (n : Int) (G.map (fgc (inb Q b))) = loc (n : Int) G := loc_fgc _ (by omega) (by
    unfold inb
    rw [decide_eq_false_iff_not, div_mod.1]
    rintro ⟨_, e⟩
    exact hn (by omega)) G
  have hDn : (D.set b ph).getD (n / Q) 0 = D.getD (n / Q) 0 := by rw [getD_set _ _ _ _ _ hbD, if_neg (fun e => hn e.symm)]
  unfold wh
  rw [hg, setH_out h hb ((div_out hQ).1 hn), hDn]
  cases loc (n : Int) G with
  | some p => rfl
  | none =>
    simp only
    unfold setS
    by_cases c : 0 ≤ S.1 ∧ S.2.1 = (b : Int)
    · rw [if_pos c]
      have n1 : ¬ (0 ≤ S.1 ∧ S.2.1 = ((n / Q : Nat) : Int) ∧ ((n % Q : Nat) : Int) < S.2.2) := fun g => hn (by have := g.2.1; omega)
      have n2 : ¬ ((0 : Int) ≤ (-1 : Int) ∧ (0 : Int) = ((n / Q : Nat) : Int) ∧ ((n % Q : Nat) : Int) < (0 : Int)) := fun g => by have := g.1; omega
      rw [if_neg n1, if_neg n2]
    · rw [if_neg c]

theorem m61_ok (h : Good Q L K D H S G) {b : Nat} (hb : (b : Int) < L) {ph : Int} (h0 : 0 ≤ ph) (h1 : ph ≤ 255) (hn : ph ∉ posi ((setS S b).1 :: (D.take b ++ D.drop (b + 1)) ++ G.map (·.1))) :
    m61 (((Q : Int), (L, (K, (D, (H, (S, G)))))), ((b : Int), (ph, ()))) = some (((Q : Int), (L, (K, (D.set b ph, (setH Q D H S G b, (setS S b, G.map (fgc (inb Q b)))))))), (delI (sortI (blocks D S G)) (sortI (blocks (D.set b ph) (setS S b) (G.map (fgc (inb Q b))))), ())) := by
  apply ok_eq
  obtain ⟨s1, s2, s3, s4⟩ := h.sz
  have g' := good_settle h hb h0 h1 hn
  have hbl := blk_le h hb
  have hsh := h.li.sh
  obtain ⟨p1, p2, p3, p4, p5, p6⟩ := hsh
  have hDl := h.li.dl
  have hbD : b < D.length := by omega
  have hle1 := blocks_len h
  have hle2 := blocks_len g'
  unfold m61
  refine Ok.bind (m77_ok h) fun y1 e1 => ?_
  subst e1
  rw [clo_eq Q L K D H S G (by omega) (fun i hi => by have := s4 i hi; omega)]
  simp only [Option.bind_some]
  refine Ok.gd (by omega) (Ok.gd (by omega) (Ok.gd (by omega) (Ok.gd (by omega) (Ok.gd (by omega) (Ok.gd (by omega) ?_)))))
  refine Ok.gd (by omega) (Ok.gd (by omega) (Ok.gd (by omega) ?_))
  have w0 : (b : Int) * (Q : Int) = ((b * Q : Nat) : Int) := by simp
  have w1 : IntKind.wrap .i64 ((b : Int) * (Q : Int)) = ((b * Q : Nat) : Int) := by rw [w0, wrap64 (by omega) (by omega)]
  simp only [w1, Int.toNat_natCast]
  refine Ok.bind (S := fun y => y = hv Q D H S G b) (Ok.loop Q (fun i x => x.1 = (i : Int) ∧ x.2 = ((List.range i).map fun o => (wh Q D H S G (b * Q + o)).2.1) ++ List.replicate (Q - i) false) ⟨rfl, by simp⟩ ?_) fun y2 e2 => ?_
  · rintro i ⟨x1, x2⟩ hi ⟨hx, hl⟩
    simp only at hx hl
    subst hx hl
    refine Ok.cond (fun hc => ?_) (fun hc => Ok.inr ?_)
    rotate_left
    · simp only at hc
      obtain rfl : i = Q := by omega
      simp [hv]
    simp only at hc
    have hi' : i < Q := by omega
    have w2 : ((b * Q : Nat) : Int) + (i : Int) = ((b * Q + i : Nat) : Int) := by simp
    rw [w2, wrap64 (n := ((b * Q + i : Nat) : Int)) (by omega) (by omega), wrap64 (n := (i : Int) + 1) (by omega) (by omega)]
    have hm := m56_eq h (b * Q + i) (by omega)
    have hm' : m56 (((Q : Int), (L, (K, (D, (H, ((S.1, (S.2.1, S.2.2)), G)))))), (((b * Q + i : Nat) : Int), ())) = some (wh Q D H S G (b * Q + i)) := hm
    rw [hm']
    simp only [Option.bind_some]
    have e3 : List.replicate (Q - i) false = false :: List.replicate (Q - (i + 1)) false := by
      rw [show Q - i = (Q - (i + 1)) + 1 by omega, List.replicate_succ]
    have hl : (((List.range i).map fun o => (wh Q D H S G (b * Q + o)).2.1) ++ List.replicate (Q - i) false).length = Q := by simp; omega
    have hl2 : ((List.range i).map fun o => (wh Q D H S G (b * Q + o)).2.1).length = i := by simp
    refine Ok.condb (fun ht => ?_) (fun ht => Ok.inl ⟨hi', by simp, ?_⟩)
    · refine Ok.gd (by omega) (Ok.gd (by rw [hl]; omega) (Ok.gd (by rw [hl]; simpa using hi') (Ok.inl ⟨hi', by simp, ?_⟩)))
      simp only [Int.toNat_natCast]
      rw [List.range_succ, List.map_append, e3]
      simp only [List.map_cons, List.map_nil, ht]
      rw [List.set_append_right _ _ (by omega), hl2, Nat.sub_self]
      simp
    · simp only
      rw [List.range_succ, List.map_append, e3]
      simp only [List.map_cons, List.map_nil, ht]
      simp
  subst e2
  refine Ok.gd (by omega) (Ok.gd (by omega) (Ok.gd (by omega) (Ok.gd (by omega) (Ok.gd (by omega) (Ok.gd (by omega) ?_)))))
  rw [m61f_eq b Q p1 G (by omega) h.el (fun g hg p hp => (h.pages g hg p hp).2)]
  simp only [Option.bind_some]
  have eH : (List.take (b * Q) H ++ List.take (H.length - b * Q) (hv Q D H S G b)) ++ List.drop (b * Q + min (hv Q D H S G b).length (H.length - b * Q)) H = setH Q D H S G b := by
    unfold setH
    have e0 : List.take (H.length - b * Q) (hv Q D H S G b) = hv Q D H S G b := List.take_of_length_le (by rw [hv_len]; omega)
    rw [e0, hv_len, Nat.min_eq_left (by omega)]
  rw [eH]
  have fin : ∀ S0 : Int × (Int × Int), S0 = setS S b → Ok (Option.bind (m77 (((Q : Int), (L, (K, (D.set b ph, (setH Q D H S G b, (S0, G.map (fgc (inb Q b)))))))), ())) fun (y5 : (List Int)) =>
      Option.bind (gd ((List.length (sortI (blocks D S G))) ≤ 140737488355328) (gd ((List.length y5) ≤ 140737488355328) (some (delI (sortI (blocks D S G)) y5)))) fun (y6 : (List Int)) =>
      some (((Q : Int), (L, (K, (D.set b ph, (setH Q D H S G b, (S0, G.map (fgc (inb Q b)))))))), (y6, ()))) (fun r => r = (((Q : Int), (L, (K, (D.set b ph, (setH Q D H S G b, (setS S b, G.map (fgc (inb Q b)))))))), (delI (sortI (blocks D S G)) (sortI (blocks (D.set b ph) (setS S b) (G.map (fgc (inb Q b))))), ()))) := by
    rintro S0 rfl
    refine Ok.bind (m77_ok g') fun y5 e5 => ?_
    subst e5
    rw [sortI_len, sortI_len, gd_pos (by omega), gd_pos (by omega)]
    exact Ok.some rfl
  refine Ok.cond (fun a => Ok.cond (fun c => fin _ ?_) (fun c => fin _ ?_)) (fun a => fin _ ?_)
  · unfold setS; rw [if_pos ⟨a, c⟩]
  · unfold setS; rw [if_neg (fun g => c g.2)]
  · unfold setS; rw [if_neg (fun g => a g.1)]
end

section
variable {Q : Nat} {L K : Int} {D : List Int} {H : List Bool} {S : Int × (Int × Int)} {G : List Log}

theorem sub_blocks (b : Nat) {ph : Int} (hf : ph ∉ blocks D S G) (h0 : 0 ≤ ph) : ph ∉ posi ((setS S b).1 :: (D.take b ++ D.drop (b + 1)) ++ G.map (·.1)) := by
  intro hm
  obtain ⟨hm, _⟩ := mem_posi.1 hm
  apply hf
  unfold blocks
  rw [mem_posi]
  refine ⟨?_, h0⟩
  simp only [List.cons_append, List.mem_cons, List.mem_append] at hm ⊢
  rcases hm with e | (e | e) | e
  · unfold setS at e
    split at e
    · simp only at e; omega
    · exact .inl e
  · exact .inr (.inl (List.mem_of_mem_take e))
  · exact .inr (.inl (List.mem_of_mem_drop e))
  · exact .inr (.inr e)

theorem switch_new (h : Good Q L K D H S G) {b : Nat} (hS : 0 ≤ S.1) (hb : S.2.1 = (b : Int)) : S.1 ∉ posi ((setS S b).1 :: (D.take b ++ D.drop (b + 1)) ++ G.map (·.1)) := by
  intro hm
  obtain ⟨hm, _⟩ := mem_posi.1 hm
  have hnb := h.nb
  rw [List.cons_append, posi_cons, if_pos hS, List.nodup_cons] at hnb
  apply hnb.1
  rw [mem_posi]
  refine ⟨?_, hS⟩
  simp only [List.cons_append, List.mem_cons, List.mem_append] at hm ⊢
  rcases hm with e | (e | e) | e
  · unfold setS at e
    rw [if_pos ⟨hS, hb⟩] at e
    simp only at e; omega
  · exact .inl (List.mem_of_mem_take e)
  · exact .inl (List.mem_of_mem_drop e)
  · exact .inr e

def setT (Q : Nat) (L K : Int) (D : List Int) (H : List Bool) (S' : Int × (Int × Int)) (S : Int × (Int × Int)) (G : List Log) (b : Nat) (ph : Int) : Tab := ((Q : Int), (L, (K, (D.set b ph, (setH Q D H S G b, (S', G.map (fgc (inb Q b))))))))

theorem m26_ok (h : Good Q L K D H S G) (block ph : Int) : Ok (m26 (((Q : Int), (L, (K, (D, (H, (S, G)))))), (block, (ph, ())))) (fun r => (∃ b : Nat, block = b ∧ (b : Int) < L ∧ fresh D S G ph ∧ r.2.2.1 = 0 ∧ r.1 = setT Q L K D H (setS S b) S G b ph ∧ r.2.1 = delI (sortI (blocks D S G)) (sortI (blocks (D.set b ph) (setS S b) (G.map (fgc (inb Q b)))))) ∨ (r = (zeroT, ([], (1, ()))) ∧ ¬ (0 ≤ block ∧ block < L ∧ fresh D S G ph))) := by
  obtain ⟨p1, p2, p3, p4, p5, p6⟩ := h.li.sh
  unfold m26
  rw [m25_good h]
  simp only [Option.bind_some]
  refine Ok.ncond (fun h1 => absurd trivial h1) (fun _ => ?_)
  rw [wrap64 (n := L - 1) (by omega) (by omega), m40_eq]
  simp only [Option.bind_some]
  refine Ok.ncond (fun h1 => Ok.some (.inr ⟨rfl, fun g => h1 ⟨g.1, by omega⟩⟩)) (fun h1 => ?_)
  refine Ok.bind (m47_ok h ph) fun y hy => ?_
  refine Ok.condb (fun h2 => Ok.some (.inr ⟨rfl, fun g => ?_⟩)) (fun h2 => ?_)
  · rw [hy.2 g.2.2] at h2; simp at h2
  have hf : fresh D S G ph := hy.1 (by simpa using h2)
  obtain ⟨b, rfl⟩ : ∃ b : Nat, block = b := ⟨block.toNat, by omega⟩
  rw [m61_ok h (by omega) hf.1 hf.2.1 (sub_blocks b hf.2.2 hf.1)]
  exact Ok.some (.inl ⟨b, rfl, by omega, hf, rfl, rfl, rfl⟩)

theorem m28_ok (h : Good Q L K D H S G) : Ok (m28 (((Q : Int), (L, (K, (D, (H, (S, G)))))), ())) (fun r => (∃ b : Nat, S.2.1 = b ∧ (b : Int) < L ∧ 0 ≤ S.1 ∧ ¬ ovr Q S G ∧ r.2.2.1 = 0 ∧ r.1 = setT Q L K D H (setS S b) S G b S.1 ∧ r.2.1 = delI (sortI (blocks D S G)) (sortI (blocks (D.set b S.1) (setS S b) (G.map (fgc (inb Q b)))))) ∨ (r = (zeroT, ([], (51, ()))) ∧ ¬ (0 ≤ S.1 ∧ ¬ ovr Q S G))) := by
  obtain ⟨p1, p2, p3, p4, p5, p6⟩ := h.li.sh
  have hsq := h.li.sq
  unfold m28
  rw [m25_good h]
  simp only [Option.bind_some]
  refine Ok.ncond (fun h1 => absurd trivial h1) (fun _ => ?_)
  refine Ok.cond (fun h1 => Ok.some (.inr ⟨rfl, fun g => by have := g.1; omega⟩)) (fun h1 => ?_)
  refine Ok.bind (m62_ok h) fun y hy => ?_
  refine Ok.condb (fun h2 => Ok.some (.inr ⟨rfl, fun g => g.2 (hy.1 h2)⟩)) (fun h2 => ?_)
  have ho : ¬ ovr Q S G := fun g => by rw [hy.2 g] at h2; simp at h2
  have hS : 0 ≤ S.1 ∧ S.1 ≤ 255 ∧ 0 ≤ S.2.1 ∧ S.2.1 < L := by
    rcases hsq with e | e
    · rw [e] at h1; simp at h1
    · exact ⟨e.1, e.2.1, e.2.2.1, e.2.2.2.1⟩
  obtain ⟨b, hb⟩ : ∃ b : Nat, S.2.1 = b := ⟨S.2.1.toNat, by omega⟩
  have hbL : (b : Int) < L := by rw [← hb]; exact hS.2.2.2
  have hm := m61_ok h hbL hS.1 hS.2.1 (switch_new h hS.1 hb)
  have hx : ((((Q : Int), (L, (K, (D, (H, (S, G)))))), (S.2.1, (S.1, ()))) : Tab × Int × Int × Unit) = (((Q : Int), (L, (K, (D, (H, (S, G)))))), ((b : Int), (S.1, ()))) := by rw [hb]
  rw [hx, hm]
  exact Ok.some (.inl ⟨b, hb, hbL, hS.1, ho, rfl, rfl, rfl⟩)

end
end Go.Proofs.Ytecadglgkhfaaaa
end

section
open Go Go.Proofs.AM
namespace Go.Proofs.Ytecadglgkhfaaaa

end Go.Proofs.Ytecadglgkhfaaaa
end

section
open Go Go.Proofs.AM
namespace Go.Proofs.Ytecadglgkhfaaaa

end Go.Proofs.Ytecadglgkhfaaaa
end

section
open Go Go.Proofs.AM
namespace Go.Proofs.Ytecadglgkhfaaaa

end Go.Proofs.Ytecadglgkhfaaaa
end

section
open Go Go.Proofs.AM
namespace Go.Proofs.Ytecadglgkhfaaaa

end Go.Proofs.Ytecadglgkhfaaaa
end

section
open Go Go.Proofs.AM
namespace Go.Proofs.Ytecadglgkhfaaaa

end Go.Proofs.Ytecadglgkhfaaaa
end

section
open Go Go.Proofs.AM
namespace Go.Proofs.Ytecadglgkhfaaaa

end Go.Proofs.Ytecadglgkhfaaaa
end

section
open Go Go.Proofs.AM
namespace Go.Proofs.Ytecadglgkhfaaaa

end Go.Proofs.Ytecadglgkhfaaaa
end

section
open Go Go.Proofs.AM
namespace Go.Proofs.Ytecadglgkhfaaaa

end Go.Proofs.Ytecadglgkhfaaaa
end

section
open Go Go.Proofs.AM
namespace Go.Proofs.Ytecadglgkhfaaaa

end Go.Proofs.Ytecadglgkhfaaaa
end

section
open Go Go.Proofs.AM
namespace Go.Proofs.Ytecadglgkhfaaaa

end Go.Proofs.Ytecadglgkhfaaaa
end

section
open Go Go.Proofs.AM
namespace Go.Proofs.Ytecadglgkhfaaaa

end Go.Proofs.Ytecadglgkhfaaaa
end

section
open Go Go.Proofs.AM
namespace Go.Proofs.Ytecadglgkhfaaaa

end Go.Proofs.Ytecadglgkhfaaaa
end

section
open Go Go.Proofs.AM
namespace Go.Proofs.Ytecadglgkhfaaaa

end Go.Proofs.Ytecadglgkhfaaaa
end

section
namespace Go.Proofs.Ytecadglgkhfaaaa
open Go Go.Proofs.AM

section
variable {P L K : Int} {D : List Int} {H : List Bool} {S : Int × (Int × Int)} {G : List Log}
end

section
variable {Q : Nat} {L K : Int} {D : List Int} {H : List Bool} {S : Int × (Int × Int)} {G : List Log}

abbrev Cp := (Int × Int) × Int

def cps (Q : Nat) (D : List Int) (H : List Bool) (S : Int × (Int × Int)) (G : List Log) (b u : Nat) : Nat → List Cp
  | 0 => []
  | k + 1 => cps Q D H S G b u k ++ (if (wh Q D H S G (b * Q + (u + k))).2.1 = true then [((wh Q D H S G (b * Q + (u + k))).1, ((u + k : Nat) : Int))] else [])

theorem cps_len (b u : Nat) : ∀ k, (cps Q D H S G b u k).length ≤ k
  | 0 => by simp [cps]
  | k + 1 => by
    have := cps_len b u k
    rw [cps, List.length_append]
    split
    · simp; omega
    · simp; omega

theorem cps_ge (b u : Nat) : ∀ k, ∀ x ∈ cps Q D H S G b u k, (u : Int) ≤ x.2 ∧ x.2 < ((u + k : Nat) : Int)
  | 0, x, hx => by simp [cps] at hx
  | k + 1, x, hx => by
    rw [cps, List.mem_append] at hx
    rcases hx with hx | hx
    · have := cps_ge b u k x hx; omega
    · split at hx
      · simp only [List.mem_singleton] at hx; subst hx; simp only; omega
      · simp at hx

def foldL (Q : Nat) (L : Int) (D : List Int) (H : List Bool) (S : Int × (Int × Int)) (G : List Log) (block : Int) : List Cp :=
  if 0 ≤ block ∧ block < L then cps Q D H S G block.toNat 0 Q else []

theorem m32_spec (h : Good Q L K D H S G) (block : Int) : m32 (((Q : Int), (L, (K, (D, (H, (S, G)))))), (block, ())) = some (foldL Q L D H S G block, ()) := by
  apply ok_eq
  obtain ⟨s1, s2, s3, s4⟩ := h.sz
  obtain ⟨p1, p2, p3, p4, p5, p6⟩ := h.li.sh
  unfold m32 foldL
  rw [m55_good h]
  simp only [Option.bind_some]
  rw [clo_eq Q L K D H S G (by omega) (fun i hi => by have := s4 i hi; omega)]
  simp only [Option.bind_some]
  refine Ok.gd (by omega) (Ok.gd (by omega) (Ok.gd (by omega) (Ok.gd (by omega) (Ok.gd (by omega) (Ok.gd (by omega) ?_)))))
  rw [wrap64 (n := L - 1) (by omega) (by omega), m40_eq]
  simp only [Option.bind_some]
  refine Ok.ncond (fun h1 => Ok.some ?_) (fun h1 => ?_)
  · rw [if_neg (fun g => h1 ⟨g.1, by omega⟩)]
  rw [if_pos ⟨h1.1, by omega⟩]
  obtain ⟨b, rfl⟩ : ∃ b : Nat, block = b := ⟨block.toNat, by omega⟩
  have hbl := blk_le h (show (b : Int) < L by omega)
  have w0 : (b : Int) * (Q : Int) = ((b * Q : Nat) : Int) := by simp
  have w1 : IntKind.wrap .i64 ((b : Int) * (Q : Int)) = ((b * Q : Nat) : Int) := by rw [w0, wrap64 (by omega) (by omega)]
  simp only [w1, Int.toNat_natCast]
  refine Ok.bind (S := fun y => y = cps Q D H S G b 0 Q) (Ok.loop Q (fun i x => x.1 = (i : Int) ∧ x.2 = cps Q D H S G b 0 i) ⟨rfl, rfl⟩ ?_) fun y hy => Ok.some (by rw [hy])
  rintro i ⟨x1, x2⟩ hi ⟨hx, hl⟩
  simp only at hx hl
  subst hx hl
  refine Ok.cond (fun hc => ?_) (fun hc => Ok.inr ?_)
  rotate_left
  · simp only at hc
    obtain rfl : i = Q := by omega
    rfl
  simp only at hc
  have hi' : i < Q := by omega
  have w2 : ((b * Q : Nat) : Int) + (i : Int) = ((b * Q + i : Nat) : Int) := by simp
  have hm' : m56 (((Q : Int), (L, (K, (D, (H, ((S.1, (S.2.1, S.2.2)), G)))))), (((b * Q + i : Nat) : Int), ())) = some (wh Q D H S G (b * Q + i)) := m56_eq h (b * Q + i) (by omega)
  have hlen := cps_len (Q := Q) (D := D) (H := H) (S := S) (G := G) b 0 i
  rw [w2, wrap64 (n := ((b * Q + i : Nat) : Int)) (by omega) (by omega), wrap64 (n := (i : Int) + 1) (by omega) (by omega), hm']
  simp only [Option.bind_some]
  refine Ok.condb (fun ht => ?_) (fun ht => Ok.inl ⟨hi', by simp, ?_⟩)
  · refine Ok.gd (by simp only [List.length_singleton]; omega) (Ok.gd (by simp only [List.length_singleton]; omega) (Ok.inl ⟨hi', by simp, ?_⟩))
    simp only
    rw [cps, Nat.zero_add, if_pos ht]
  · simp only
    rw [cps, Nat.zero_add, if_neg (by rw [ht]; simp), List.append_nil]

def restL (Q : Nat) (D : List Int) (H : List Bool) (S : Int × (Int × Int)) (G : List Log) : List Cp :=
  if S.1 < 0 then [] else cps Q D H S G S.2.1.toNat S.2.2.toNat (Q - S.2.2.toNat)

theorem Good.seq (h : Good Q L K D H S G) (hS : ¬ S.1 < 0) : ∃ b u : Nat, S.2.1 = b ∧ S.2.2 = u ∧ (b : Int) < L ∧ u ≤ Q := by
  rcases h.li.sq with e | e
  · rw [e] at hS; simp at hS
  · exact ⟨S.2.1.toNat, S.2.2.toNat, by omega, by omega, by omega, by omega⟩

theorem m34_spec (h : Good Q L K D H S G) : m34 (((Q : Int), (L, (K, (D, (H, (S, G)))))), ()) = some (restL Q D H S G, ()) := by
  apply ok_eq
  obtain ⟨s1, s2, s3, s4⟩ := h.sz
  obtain ⟨p1, p2, p3, p4, p5, p6⟩ := h.li.sh
  unfold m34 restL
  rw [m55_good h]
  simp only [Option.bind_some]
  rw [clo_eq Q L K D H S G (by omega) (fun i hi => by have := s4 i hi; omega)]
  simp only [Option.bind_some]
  refine Ok.gd (by omega) (Ok.gd (by omega) (Ok.gd (by omega) (Ok.gd (by omega) (Ok.gd (by omega) (Ok.gd (by omega) ?_)))))
  refine Ok.cond (fun h1 => Ok.some ?_) (fun h1 => ?_)
  · rw [if_pos h1]
  rw [if_neg h1]
  obtain ⟨b, u, hb, hu, hbL, huQ⟩ := h.seq h1
  have hbl := blk_le h hbL
  have w0 : (b : Int) * (Q : Int) = ((b * Q : Nat) : Int) := by simp
  have w1 : IntKind.wrap .i64 ((b : Int) * (Q : Int)) = ((b * Q : Nat) : Int) := by rw [w0, wrap64 (by omega) (by omega)]
  simp only [hb, hu, w1, Int.toNat_natCast]
  refine Ok.bind (S := fun y => y = cps Q D H S G b u (Q - u)) (Ok.loop (Q - u) (fun i x => x.1 = ((u + i : Nat) : Int) ∧ x.2 = cps Q D H S G b u i) ⟨rfl, rfl⟩ ?_) fun y hy => Ok.some (by rw [hy])
  rintro i ⟨x1, x2⟩ hi ⟨hx, hl⟩
  simp only at hx hl
  subst hx hl
  refine Ok.cond (fun hc => ?_) (fun hc => Ok.inr ?_)
  rotate_left
  · simp only at hc
    obtain rfl : i = Q - u := by omega
    rfl
  simp only at hc
  have hi' : i < Q - u := by omega
  have w2 : ((b * Q : Nat) : Int) + ((u + i : Nat) : Int) = ((b * Q + (u + i) : Nat) : Int) := by simp
  have hm' : m56 (((Q : Int), (L, (K, (D, (H, ((S.1, ((b : Int), (u : Int))), G)))))), (((b * Q + (u + i) : Nat) : Int), ())) = some (wh Q D H S G (b * Q + (u + i))) := by
    have := m56_eq h (b * Q + (u + i)) (by omega)
    rw [← hb, ← hu]; exact this
  have hlen := cps_len (Q := Q) (D := D) (H := H) (S := S) (G := G) b u i
  rw [w2, wrap64 (n := ((b * Q + (u + i) : Nat) : Int)) (by omega) (by omega), wrap64 (n := ((u + i : Nat) : Int) + 1) (by omega) (by omega), hm']
  simp only [Option.bind_some]
  refine Ok.condb (fun ht => ?_) (fun ht => Ok.inl ⟨hi', by simp only; omega, ?_⟩)
  · refine Ok.gd (by simp only [List.length_singleton]; omega) (Ok.gd (by simp only [List.length_singleton]; omega) (Ok.inl ⟨hi', by simp only; omega, ?_⟩))
    simp only
    rw [cps, if_pos ht]
  · simp only
    rw [cps, if_neg (by rw [ht]; simp), List.append_nil]

end

end Go.Proofs.Ytecadglgkhfaaaa
end

section
namespace Go.Proofs.Ytecadglgkhfaaaa
open Go Go.Proofs.AM

abbrev DT := List ((Int × Int) × Int)
abbrev kP : Bool × K := (true, .pair (.int .i64) (.int .i64))

noncomputable def erI (b : Int) (d : DT) : Option DT :=
  loopM (X := Int × DT) (E := DT) (fun x => bif (decide (x.1 < (32 : Int))) then (some (Sum.inl ((Go.IntKind.wrap .i64 (x.1 + (1 : Int))), (mdel (true, (.pair (.int .i64) (.int .i64))) x.2 (b, x.1))))) else (some (Sum.inr x.2))) ((0 : Int), d)

noncomputable def erL (l : List Int) (d : DT) : Option DT :=
  loopM (X := Int × DT) (E := DT) (fun x => bif (decide (x.1 < (((List.length l) : Nat) : Int))) then (gd ((0 : Int) ≤ x.1) (gd (x.1 < (((List.length l) : Nat) : Int)) (Option.bind (erI (List.getD l (Int.toNat x.1) (0 : Int)) x.2) fun (y : DT) => some (Sum.inl ((Go.IntKind.wrap .i64 (x.1 + (1 : Int))), y))))) else (some (Sum.inr x.2))) ((0 : Int), d)

noncomputable def erG (l : List Int) (d : DT) : Option DT :=
  loopM (X := Int × DT) (E := DT) (fun x => bif (decide (x.1 < (((List.length l) : Nat) : Int))) then (gd ((0 : Int) ≤ x.1) (gd (x.1 < (((List.length l) : Nat) : Int)) (gd ((Int.toNat x.1) < (List.length l)) (Option.bind (erI (List.getD l (Int.toNat x.1) (0 : Int)) x.2) fun (y : DT) => some (Sum.inl ((Go.IntKind.wrap .i64 (x.1 + (1 : Int))), y)))))) else (some (Sum.inr x.2))) ((0 : Int), d)

noncomputable def cpL (c : List Cp) (ph : Int) (d : DT) : Option DT :=
  loopM (X := Int × DT) (E := DT) (fun x => bif (decide (x.1 < (((List.length c) : Nat) : Int))) then (gd ((0 : Int) ≤ x.1) (gd (x.1 < (((List.length c) : Nat) : Int)) (bif (mhas (true, (.pair (.int .i64) (.int .i64))) x.2 (List.getD c (Int.toNat x.1) (((0 : Int), (0 : Int)), (0 : Int))).1) then (some (Sum.inl ((Go.IntKind.wrap .i64 (x.1 + (1 : Int))), (mset (true, (.pair (.int .i64) (.int .i64))) x.2 (ph, (List.getD c (Int.toNat x.1) (((0 : Int), (0 : Int)), (0 : Int))).2) (mget (true, (.pair (.int .i64) (.int .i64))) x.2 (List.getD c (Int.toNat x.1) (((0 : Int), (0 : Int)), (0 : Int))).1 (0 : Int)))))) else (some (Sum.inl ((Go.IntKind.wrap .i64 (x.1 + (1 : Int))), x.2)))))) else (some (Sum.inr x.2))) ((0 : Int), d)

abbrev XT := Int × (Int × (Int × (List Int × (List Bool × (Int × (Int × (Int × (List (Int × List Int) × (Unit × DT)))))))))

def flat (t : Tab) (d : DT) : XT := (t.1, (t.2.1, (t.2.2.1, (t.2.2.2.1, (t.2.2.2.2.1, (t.2.2.2.2.2.1.1, (t.2.2.2.2.2.1.2.1, (t.2.2.2.2.2.1.2.2, (t.2.2.2.2.2.2, ((), d))))))))))
def tabOf (x : XT) : Tab := (x.1, (x.2.1, (x.2.2.1, (x.2.2.2.1, (x.2.2.2.2.1, ((x.2.2.2.2.2.1, (x.2.2.2.2.2.2.1, x.2.2.2.2.2.2.2.1)), x.2.2.2.2.2.2.2.2.1))))))
def datOf (x : XT) : DT := x.2.2.2.2.2.2.2.2.2.2

abbrev WX := Int × XT
abbrev WE := XT ⊕ (Bool × XT)

def finS (cnt e : Int) (t : Tab) (d : DT) : Option (WX ⊕ WE) :=
  bif (!(decide (e = (0 : Int)))) then (some (Sum.inr (Sum.inr ((decide (e = (0 : Int))), flat t d)))) else (some (Sum.inl ((Go.IntKind.wrap .i64 (cnt + (1 : Int))), flat t d)))

noncomputable def finP (page v : Int) (T : Tab) (d : DT) (s : Int × Int) : Option (WX ⊕ WE) :=
  Option.bind (m18 (T, (s, (page, ())))) fun y => bif (!(decide (y.2.2.1 = (0 : Int)))) then (some (Sum.inr (Sum.inr ((decide (y.2.2.1 = (0 : Int))), flat y.1 (mset (true, (.pair (.int .i64) (.int .i64))) d y.2.1 v))))) else (some (Sum.inr (Sum.inr ((decide (y.2.2.1 = (0 : Int))), flat y.1 (mset (true, (.pair (.int .i64) (.int .i64))) d y.2.1 v)))))

noncomputable def nilL (d : DT) : Option DT :=
  loopM (X := Int × DT) (E := DT) (fun x => bif (decide (x.1 < (0 : Int))) then (none) else (some (Sum.inr x.2))) ((0 : Int), d)

noncomputable def finO (cnt : Int) (T : Tab) (d : DT) (s : Int × Int) (ph : Int) : Option (WX ⊕ WE) :=
  Option.bind (erG (ph :: []) d) fun d1 => Option.bind (m15 (T, (s, (ph, ())))) fun y => Option.bind (nilL d1) fun d2 => finS cnt y.2.1 y.1 d2

noncomputable def finW (cnt : Int) (T : Tab) (d : DT) : Option (WX ⊕ WE) :=
  Option.bind (m34 (T, ())) fun y => Option.bind (cpL y.1 T.2.2.2.2.2.1.1 d) fun d1 => Option.bind (m28 (T, ())) fun z => Option.bind (erL z.2.1 d1) fun d2 => finS cnt z.2.2.1 z.1 d2

noncomputable def finF (cnt : Int) (T : Tab) (d : DT) (s : Int × Int) (ph : Int) : Option (WX ⊕ WE) :=
  Option.bind (m32 (T, (s.2, ()))) fun y => Option.bind (cpL y.1 ph d) fun d1 => Option.bind (m26 (T, (s.2, (ph, ())))) fun z => Option.bind (erL z.2.1 d1) fun d2 => finS cnt z.2.2.1 z.1 d2

noncomputable def finD (cnt : Int) (T : Tab) (d : DT) : Option (WX ⊕ WE) :=
  Option.bind (m24 (T, ())) fun z => Option.bind (erG (z.2.1 :: []) d) fun d1 => finS cnt z.2.2.1 z.1 d1

noncomputable def doS (cnt page v : Int) (T : Tab) (d : DT) (s : Int × Int) (ph : Int) : Option (WX ⊕ WE) :=
  bif (decide (s.1 = (1 : Int))) then finP page v T d s else
  bif (decide (s.1 = (2 : Int))) then finP page v T d s else
  bif (decide (s.1 = (3 : Int))) then finO cnt T d s ph else
  bif (decide (s.1 = (4 : Int))) then finO cnt T d s ph else
  bif (decide (s.1 = (6 : Int))) then finW cnt T d else
  bif (decide (s.1 = (5 : Int))) then finW cnt T d else
  bif (decide (s.1 = (7 : Int))) then finF cnt T d s ph else
  bif (decide (s.1 = (8 : Int))) then finF cnt T d s ph else finD cnt T d

noncomputable def frS (u : List Int) : Option (Unit ⊕ Int) :=
  loopM (X := Int) (E := (Unit ⊕ Int)) (fun (x8 : Int) => bif (decide (x8 < (256 : Int))) then (Option.bind (m76 (u, (x8, ()))) fun (y9 : (Bool × Unit)) => bif (!y9.1) then (some (Sum.inr (Sum.inr x8))) else (some (Sum.inl (Go.IntKind.wrap .i64 (x8 + (1 : Int)))))) else (some (Sum.inr (Sum.inl ())))) (0 : Int)

noncomputable def stS (page v : Int) (x : WX) : Option (WX ⊕ WE) :=
  Option.bind (m13 (tabOf x.2, (page, ()))) fun y6 =>
  bif (!(decide (y6.2.1 = (0 : Int)))) then (some (Sum.inr (Sum.inr (false, flat (tabOf x.2) (datOf x.2))))) else
  Option.bind (m77 (tabOf x.2, ())) fun y7 => Option.bind (frS y7) fun y8 =>
  Sum.elim (fun _ => doS x.1 page v (tabOf x.2) (datOf x.2) y6.1 (-1)) (fun n => doS x.1 page v (tabOf x.2) (datOf x.2) y6.1 n) y8

noncomputable def wrS (page v P3 : Int) (t : Tab) (d : DT) : Option WE :=
  loopM (X := WX) (E := WE) (fun x => bif (decide (x.1 < P3)) then stS page v x else (some (Sum.inr (Sum.inl (flat (tabOf x.2) (datOf x.2)))))) ((0 : Int), flat t d)

abbrev LT := List (Int × Int)
abbrev YT := Int × (Int × (Int × (List Int × (List Bool × (Int × (Int × (Int × (List (Int × List Int) × (Unit × (DT × LT))))))))))
def flat2 (t : Tab) (d : DT) (l : LT) : YT := (t.1, (t.2.1, (t.2.2.1, (t.2.2.2.1, (t.2.2.2.2.1, (t.2.2.2.2.2.1.1, (t.2.2.2.2.2.1.2.1, (t.2.2.2.2.2.1.2.2, (t.2.2.2.2.2.2, ((), (d, l)))))))))))
def tab2 (x : YT) : Tab := (x.1, (x.2.1, (x.2.2.1, (x.2.2.2.1, (x.2.2.2.2.1, ((x.2.2.2.2.2.1, (x.2.2.2.2.2.2.1, x.2.2.2.2.2.2.2.1)), x.2.2.2.2.2.2.2.2.1))))))
def dat2 (x : YT) : DT := x.2.2.2.2.2.2.2.2.2.2.1
def las2 (x : YT) : LT := x.2.2.2.2.2.2.2.2.2.2.2

noncomputable def wsS (ws : List Int) (H0 : List Bool) (t : Tab) : Option (YT ⊕ (Bool × YT)) :=
  loopM (X := Int × YT) (E := YT ⊕ (Bool × YT)) (fun x3 =>
    bif (decide (x3.1 < (((List.length ws) : Nat) : Int))) then
      (gd ((0 : Int) ≤ x3.1) (gd (x3.1 < (((List.length ws) : Nat) : Int)) (if (((List.length H0) : Nat) : Int) = (0 : Int) then (none) else
        (Option.bind (wrS (Int.tmod (Go.IntKind.wrap .i64 (List.getD ws (Int.toNat x3.1) (0 : Int))) (((List.length H0) : Nat) : Int)) x3.1 (Go.IntKind.wrap .i64 (x3.2.1 + (3 : Int))) (tab2 x3.2) (dat2 x3.2)) fun (y4 : WE) =>
        Sum.elim (fun y5 => some (Sum.inr (Sum.inr (false, flat2 (tabOf y5) (datOf y5) (las2 x3.2))))) (fun y5 =>
          bif (!y5.1) then (some (Sum.inr (Sum.inr (false, flat2 (tabOf y5.2) (datOf y5.2) (las2 x3.2))))) else
          (some (Sum.inl ((Go.IntKind.wrap .i64 (x3.1 + (1 : Int))), flat2 (tabOf y5.2) (datOf y5.2) (mset (false, (.int .i64)) (las2 x3.2) (Int.tmod (Go.IntKind.wrap .i64 (List.getD ws (Int.toNat x3.1) (0 : Int))) (((List.length H0) : Nat) : Int)) x3.1))))) y4))))
    else (some (Sum.inr (Sum.inl (flat2 (tab2 x3.2) (dat2 x3.2) (las2 x3.2)))))) ((0 : Int), flat2 t [] [])

noncomputable def rdS (H0 : List Bool) (y : YT) : Option (Unit ⊕ Bool) :=
  loopM (X := Int) (E := (Unit ⊕ Bool)) (fun (x5 : Int) =>
    bif (decide (x5 < (((List.length H0) : Nat) : Int))) then
      (Option.bind (m22 (tab2 y, (x5, ()))) fun (y6 : ((Int × Int) × (Bool × Unit))) =>
      bif (!(bif (mhas (false, (.int .i64)) (las2 y) x5) then y6.2.1 else (!y6.2.1))) then (some (Sum.inr (Sum.inr false))) else
      (bif y6.2.1 then
        (bif (!(mhas (true, (.pair (.int .i64) (.int .i64))) (dat2 y) y6.1)) then (some (Sum.inr (Sum.inr false))) else
        (bif (!(decide ((mget (true, (.pair (.int .i64) (.int .i64))) (dat2 y) y6.1 (0 : Int)) = (mget (false, (.int .i64)) (las2 y) x5 (0 : Int))))) then (some (Sum.inr (Sum.inr false))) else
          (some (Sum.inl (Go.IntKind.wrap .i64 (x5 + (1 : Int)))))))
      else (some (Sum.inl (Go.IntKind.wrap .i64 (x5 + (1 : Int)))))))
    else (some (Sum.inr (Sum.inl ())))) (0 : Int)

def cutN (l : List Int) : Int := if (120 : Int) < (((List.length l) : Nat) : Int) then (120 : Int) else (((List.length l) : Nat) : Int)
end Go.Proofs.Ytecadglgkhfaaaa
end

section
open Go Go.Proofs.AM
namespace Go.Proofs.Ytecadglgkhfaaaa

noncomputable def m8 (x : (Int × (Int × (Int × List Int))) × Unit) : Option (Bool × Unit) :=
 (Option.bind (m10 ()) fun (y1 : (Bool × Unit)) => bif (!y1.1) then (some (false, ())) else
 Option.bind (m30 ((Go.IntKind.wrap .i64 ((Go.IntKind.wrap .i64 (Int.tmod x.1.1 (8 : Int))) + (4 : Int))), ((Go.IntKind.wrap .i64 ((Go.IntKind.wrap .i64 (Int.tmod x.1.2.1 (6 : Int))) + (1 : Int))), ((Go.IntKind.wrap .i64 ((Go.IntKind.wrap .i64 (Int.tmod x.1.2.2.1 (3 : Int))) + (1 : Int))), ())))) fun (y2 : (Tab × (Int × Unit))) =>
 bif (!(decide (y2.2.1 = (0 : Int)))) then (some (false, ())) else
 gd ((0 : Int) ≤ cutN x.1.2.2.2) (gd (cutN x.1.2.2.2 ≤ (((List.length x.1.2.2.2) : Nat) : Int))
 (Option.bind (wsS (List.take ((Int.toNat (cutN x.1.2.2.2)) - (Int.toNat (0 : Int))) (List.drop (Int.toNat (0 : Int)) x.1.2.2.2)) y2.1.2.2.2.2.1 y2.1) fun y3 =>
 Sum.elim (fun y4 => Option.bind (rdS y2.1.2.2.2.2.1 y4) fun y5 =>
 Sum.elim (fun _ => Option.bind (m25 (tab2 y4, ())) fun y7 => some ((decide (y7.1 = (0 : Int))), ())) (fun y6 => some (y6, ())) y5) (fun y4 => some (y4.1, ())) y3)))

noncomputable def i8_87 : ID := aInl Try.prog ({ envOf [(76, ⟨[(false, (.sl (.int .i64))), (false, (.int .i64))], [(false, .bool)], false, m76⟩)] [(77, OS.hd ⟨[(true, kT)], 3, (.int .i64), false, m77⟩)] [] [] with deep := [79] }) ⟨[(9000, ⟨[.slot 10 (.d false (.int .i64) true)], [], [(some 0, []), (none, [.slot 2 (.d false (.int .i64) true)])], none⟩)], []⟩ Try.f87
noncomputable def i8_88 : ID := aInl Try.prog ({ envOf [] [] [] [] with deep := [79] }) ⟨[(9000, ⟨[.slot 9 (.d false (.int .i64) true), .map 2 (true, (.pair (.int .i64) (.int .i64))) (false, (.int .i64)) true], [], [(some 0, [.map 2 (true, (.pair (.int .i64) (.int .i64))) (false, (.int .i64)) true])], none⟩), (9002, ⟨[.slot 13 (.d false (.int .i64) true), .map 2 (true, (.pair (.int .i64) (.int .i64))) (false, (.int .i64)) true], [], [(some 2, [.map 2 (true, (.pair (.int .i64) (.int .i64))) (false, (.int .i64)) true])], none⟩), (10000, ⟨[.slot 9 (.d false (.int .i64) true), .map 2 (true, (.pair (.int .i64) (.int .i64))) (false, (.int .i64)) true], [], [(some 0, [.map 2 (true, (.pair (.int .i64) (.int .i64))) (false, (.int .i64)) true])], none⟩), (10002, ⟨[.slot 13 (.d false (.int .i64) true), .map 2 (true, (.pair (.int .i64) (.int .i64))) (false, (.int .i64)) true], [], [(some 2, [.map 2 (true, (.pair (.int .i64) (.int .i64))) (false, (.int .i64)) true])], none⟩)], []⟩ Try.f88
noncomputable def i8_89 : ID := aInl Try.prog ({ envOf [] [] [] [] with deep := [79] }) ⟨[(9000, ⟨[.slot 12 (.d false (.int .i64) true), .map 2 (true, (.pair (.int .i64) (.int .i64))) (false, (.int .i64)) true], [], [(some 0, [.map 2 (true, (.pair (.int .i64) (.int .i64))) (false, (.int .i64)) true])], none⟩)], []⟩ Try.f89
noncomputable def i8_63 : ID := aInl Try.prog ({ envOf [(15, ⟨[(true, kT), (true, (.pair (.int .i64) (.int .i64))), (false, (.int .i64))], [(true, kT), (false, (.int .i64))], false, m15⟩), (18, ⟨[(true, kT), (true, (.pair (.int .i64) (.int .i64))), (false, (.int .i64))], [(true, kT), (true, (.pair (.int .i64) (.int .i64))), (false, (.int .i64))], false, m18⟩), (24, ⟨[(true, kT)], [(true, kT), (false, (.int .i64)), (false, (.int .i64))], false, m24⟩), (26, ⟨[(true, kT), (false, (.int .i64)), (false, (.int .i64))], [(true, kT), (false, (.sl (.int .i64))), (false, (.int .i64))], false, m26⟩), (28, ⟨[(true, kT)], [(true, kT), (false, (.sl (.int .i64))), (false, (.int .i64))], false, m28⟩), (32, ⟨[(true, kT), (false, (.int .i64))], [(false, (.sl (.pair (.pair (.int .i64) (.int .i64)) (.int .i64))))], false, m32⟩), (34, ⟨[(true, kT)], [(false, (.sl (.pair (.pair (.int .i64) (.int .i64)) (.int .i64))))], false, m34⟩)] [] [] [(87, i8_87), (88, i8_88), (89, i8_89)] with deep := [79] }) ⟨[], []⟩ Try.f63
noncomputable def i8_29 : ID := aInl Try.prog ({ envOf [(13, ⟨[(true, kT), (false, (.int .i64))], [(true, (.pair (.int .i64) (.int .i64))), (false, (.int .i64))], false, m13⟩)] [] [] [(63, i8_63)] with deep := [79] }) ⟨[(6000, ⟨[.slot 17 (.d false (.int .i64) true), .cell 3 0 (.d false (.int .i64) true), .cell 3 1 (.d false (.int .i64) true), .cell 3 2 (.d false (.int .i64) true), .cell 3 3 (.d false (.sl (.int .i64)) false), .cell 3 4 (.d false (.sl .bool) false), .cell 3 5 (.d false (.int .i64) true), .cell 3 6 (.d false (.int .i64) true), .cell 3 7 (.d false (.int .i64) true), .cell 3 8 (.d false (.sl (.pair (.int .i64) (.sl (.int .i64)))) false), .cell 3 9 (.m 2), .map 2 (true, (.pair (.int .i64) (.int .i64))) (false, (.int .i64)) true], [], [(some 0, [.cell 3 0 (.d false (.int .i64) true), .cell 3 1 (.d false (.int .i64) true), .cell 3 2 (.d false (.int .i64) true), .cell 3 3 (.d false (.sl (.int .i64)) false), .cell 3 4 (.d false (.sl .bool) false), .cell 3 5 (.d false (.int .i64) true), .cell 3 6 (.d false (.int .i64) true), .cell 3 7 (.d false (.int .i64) true), .cell 3 8 (.d false (.sl (.pair (.int .i64) (.sl (.int .i64)))) false), .cell 3 9 (.m 2), .map 2 (true, (.pair (.int .i64) (.int .i64))) (false, (.int .i64)) true]), (none, [.slot 6 (.d false .bool true), .cell 3 0 (.d false (.int .i64) true), .cell 3 1 (.d false (.int .i64) true), .cell 3 2 (.d false (.int .i64) true), .cell 3 3 (.d false (.sl (.int .i64)) false), .cell 3 4 (.d false (.sl .bool) false), .cell 3 5 (.d false (.int .i64) true), .cell 3 6 (.d false (.int .i64) true), .cell 3 7 (.d false (.int .i64) true), .cell 3 8 (.d false (.sl (.pair (.int .i64) (.sl (.int .i64)))) false), .cell 3 9 (.m 2), .map 2 (true, (.pair (.int .i64) (.int .i64))) (false, (.int .i64)) true])], none⟩)], []⟩ Try.f29
noncomputable def r8 : PDen [(true, (.pair (.int .u8) (.pair (.int .u8) (.pair (.int .u8) (.sl (.int .u16))))))] → Option (PDen [(false, .bool)]) := fun x => afun Try.prog ({ envOf [(10, ⟨[], [(false, .bool)], false, m10⟩), (22, ⟨[(true, kT), (false, (.int .i64))], [(true, (.pair (.int .i64) (.int .i64))), (false, .bool)], false, m22⟩), (25, ⟨[(true, kT)], [(false, (.int .i64))], false, m25⟩), (30, ⟨[(false, (.int .i64)), (false, (.int .i64)), (false, (.int .i64))], [(true, kT), (false, (.int .i64))], false, m30⟩)] [] [] [(29, i8_29)] with deep := [79] }) ⟨[(0, ⟨[.slot 53 (.d false (.int .i64) true), .cell 3 0 (.d false (.int .i64) true), .cell 3 1 (.d false (.int .i64) true), .cell 3 2 (.d false (.int .i64) true), .cell 3 3 (.d false (.sl (.int .i64)) false), .cell 3 4 (.d false (.sl .bool) false), .cell 3 5 (.d false (.int .i64) true), .cell 3 6 (.d false (.int .i64) true), .cell 3 7 (.d false (.int .i64) true), .cell 3 8 (.d false (.sl (.pair (.int .i64) (.sl (.int .i64)))) false), .cell 3 9 (.m 2), .map 2 (true, (.pair (.int .i64) (.int .i64))) (false, (.int .i64)) true, .map 4 (false, (.int .i64)) (false, (.int .i64)) true], [], [(some 0, [.cell 3 0 (.d false (.int .i64) true), .cell 3 1 (.d false (.int .i64) true), .cell 3 2 (.d false (.int .i64) true), .cell 3 3 (.d false (.sl (.int .i64)) false), .cell 3 4 (.d false (.sl .bool) false), .cell 3 5 (.d false (.int .i64) true), .cell 3 6 (.d false (.int .i64) true), .cell 3 7 (.d false (.int .i64) true), .cell 3 8 (.d false (.sl (.pair (.int .i64) (.sl (.int .i64)))) false), .cell 3 9 (.m 2), .map 2 (true, (.pair (.int .i64) (.int .i64))) (false, (.int .i64)) true, .map 4 (false, (.int .i64)) (false, (.int .i64)) true]), (none, [.slot 2 (.d false .bool true), .cell 3 0 (.d false (.int .i64) true), .cell 3 1 (.d false (.int .i64) true), .cell 3 2 (.d false (.int .i64) true), .cell 3 3 (.d false (.sl (.int .i64)) false), .cell 3 4 (.d false (.sl .bool) false), .cell 3 5 (.d false (.int .i64) true), .cell 3 6 (.d false (.int .i64) true), .cell 3 7 (.d false (.int .i64) true), .cell 3 8 (.d false (.sl (.pair (.int .i64) (.sl (.int .i64)))) false), .cell 3 9 (.m 2), .map 2 (true, (.pair (.int .i64) (.int .i64))) (false, (.int .i64)) true, .map 4 (false, (.int .i64)) (false, (.int .i64)) true])], none⟩), (2, ⟨[.slot 76 (.d false (.int .i64) true)], [], [(some 2, []), (none, [.slot 2 (.d false .bool true)])], none⟩)], []⟩ Try.f8 [(true, (.pair (.int .u8) (.pair (.int .u8) (.pair (.int .u8) (.sl (.int .u16))))))] [(false, .bool)] false x
theorem r8_eq : r8 = m8 := by kernel_rfl

theorem i8_87_sound : i8_87.Sound Try.prog 87 := aInl_sound' (Env.Sound.deepen (envOf_sound (CSs.cons c76 (CSs.nil)) (HDs.cons (OS.Sound.hd c77) (HDs.nil)) (IDs.nil)) [79]) Try.follows (f := 87) (fn := Try.f87) Try.func87 (by kernel_rfl) (by kernel_rfl)
theorem i8_88_sound : i8_88.Sound Try.prog 88 := aInl_sound' (Env.Sound.deepen (envOf_sound (CSs.nil) (HDs.nil) (IDs.nil)) [79]) Try.follows (f := 88) (fn := Try.f88) Try.func88 (by kernel_rfl) (by kernel_rfl)
theorem i8_89_sound : i8_89.Sound Try.prog 89 := aInl_sound' (Env.Sound.deepen (envOf_sound (CSs.nil) (HDs.nil) (IDs.nil)) [79]) Try.follows (f := 89) (fn := Try.f89) Try.func89 (by kernel_rfl) (by kernel_rfl)
theorem i8_63_sound : i8_63.Sound Try.prog 63 := aInl_sound' (Env.Sound.deepen (envOf_sound (CSs.cons c15 (CSs.cons c18 (CSs.cons c24 (CSs.cons c26 (CSs.cons c28 (CSs.cons c32 (CSs.cons c34 (CSs.nil)))))))) (HDs.nil) (IDs.cons i8_87_sound (IDs.cons i8_88_sound (IDs.cons i8_89_sound (IDs.nil))))) [79]) Try.follows (f := 63) (fn := Try.f63) Try.func63 (by kernel_rfl) (by kernel_rfl)
theorem i8_29_sound : i8_29.Sound Try.prog 29 := aInl_sound' (Env.Sound.deepen (envOf_sound (CSs.cons c13 (CSs.nil)) (HDs.nil) (IDs.cons i8_63_sound (IDs.nil))) [79]) Try.follows (f := 29) (fn := Try.f29) Try.func29 (by kernel_rfl) (by kernel_rfl)
theorem c8 : CS.Sound Try.prog 8 ⟨[(true, (.pair (.int .u8) (.pair (.int .u8) (.pair (.int .u8) (.sl (.int .u16))))))], [(false, .bool)], false, m8⟩ := afun_sound' (Env.Sound.deepen (envOf_sound (CSs.cons c10 (CSs.cons c22 (CSs.cons c25 (CSs.cons (OM.Sound.cs c30) (CSs.nil))))) (HDs.nil) (IDs.cons i8_29_sound (IDs.nil))) [79]) rfl Try.follows (f := 8) (fn := Try.f8) Try.func8 (by kernel_rfl) (by kernel_rfl) r8_eq
end Go.Proofs.Ytecadglgkhfaaaa
end

section
namespace Go.Proofs.Ytecadglgkhfaaaa
open Go Go.Proofs.AM

def lk : DT → (Int × Int) → Option Int
  | [], _ => none
  | q :: r, p => if p = q.1 then some q.2 else lk r p

theorem kP_beq (x y : Int × Int) : K.beq kP.2 x y = decide (x = y) := by
  obtain ⟨a, b⟩ := x
  obtain ⟨c, d⟩ := y
  show ((a == c) && (b == d)) = _
  by_cases h1 : a = c <;> by_cases h2 : b = d <;> simp [h1, h2]

theorem mhas_lk : ∀ (d : DT) (p : Int × Int), mhas kP (V := Int) d p = (lk d p).isSome
  | [], _ => rfl
  | q :: r, p => by
    unfold mhas lk
    rw [kP_beq, mhas_lk r p]
    by_cases h : p = q.1 <;> simp [h]

theorem mget_lk : ∀ (d : DT) (p : Int × Int) (z : Int), mget kP (V := Int) d p z = (lk d p).getD z
  | [], _, _ => rfl
  | q :: r, p, z => by
    unfold mget lk
    rw [kP_beq, mget_lk r p z]
    by_cases h : p = q.1 <;> simp [h]

theorem lk_mset : ∀ (d : DT) (x : Int × Int) (v : Int) (p : Int × Int), lk (mset kP (V := Int) d x v) p = if p = x then some v else lk d p
  | [], _, _, _ => rfl
  | q :: r, x, v, p => by
    unfold mset
    rw [kP_beq]
    by_cases h : x = q.1
    · simp only [h, decide_true, cond_true, lk]
      by_cases h2 : p = q.1 <;> simp [h2]
    · simp only [h, decide_false, cond_false, lk, lk_mset r x v p]
      by_cases h2 : p = q.1
      · have : ¬ p = x := fun e => h (e ▸ h2)
        simp [h2]
        intro e; exact absurd e.symm h
      · simp [h2]

theorem lk_mdel : ∀ (d : DT) (x : Int × Int) (p : Int × Int), p ≠ x → lk (mdel kP (V := Int) d x) p = lk d p
  | [], _, _, _ => rfl
  | q :: r, x, p, hp => by
    unfold mdel
    rw [kP_beq]
    by_cases h : x = q.1
    · simp only [h, decide_true, cond_true, lk]
      rw [if_neg (fun e => hp (by rw [e, h]))]
    · simp only [h, decide_false, cond_false, lk, lk_mdel r x p hp]

theorem erI_ok (b : Int) (d : DT) : Ok (erI b d) (fun d' => ∀ p : Int × Int, p.1 ≠ b → lk d' p = lk d p) := by
  unfold erI
  refine Ok.loop 32 (fun i x => x.1 = (i : Int) ∧ ∀ p : Int × Int, p.1 ≠ b → lk x.2 p = lk d p) ⟨rfl, fun _ _ => rfl⟩ ?_
  rintro i ⟨c, e⟩ hi ⟨rfl, h⟩
  refine Ok.cond (fun hc => Ok.inl ⟨by simp only at hc; omega, ?_, fun p hp => ?_⟩) (fun _ => Ok.inr h)
  · simp only at hc ⊢
    rw [wrap64 (by omega) (by omega)]; push_cast; rfl
  · simp only
    rw [lk_mdel _ _ _ (fun e => hp (by rw [e]))]
    exact h p hp

theorem erL_ok (l : List Int) (d : DT) (hl : l.length ≤ 100000) : Ok (erL l d) (fun d' => ∀ p : Int × Int, p.1 ∉ l → lk d' p = lk d p) := by
  unfold erL
  refine Ok.loop l.length (fun i x => x.1 = (i : Int) ∧ ∀ p : Int × Int, p.1 ∉ l → lk x.2 p = lk d p) ⟨rfl, fun _ _ => rfl⟩ ?_
  rintro i ⟨c, e⟩ hi ⟨rfl, h⟩
  refine Ok.cond (fun hc => ?_) (fun _ => Ok.inr h)
  simp only at hc
  have hil : i < l.length := by omega
  refine Ok.gd (by simp only; omega) (Ok.gd hc (Ok.bind (erI_ok _ _) fun y hy => Ok.inl ⟨hil, ?_, fun p hp => ?_⟩))
  · simp only
    rw [wrap64 (by omega) (by omega)]; push_cast; rfl
  · simp only [Int.toNat_natCast] at hy ⊢
    rw [hy p (fun e => hp (by rw [e]; exact getD_mem hil))]
    exact h p hp

theorem erG_ok (l : List Int) (d : DT) (hl : l.length ≤ 100000) : Ok (erG l d) (fun d' => ∀ p : Int × Int, p.1 ∉ l → lk d' p = lk d p) := by
  unfold erG
  refine Ok.loop l.length (fun i x => x.1 = (i : Int) ∧ ∀ p : Int × Int, p.1 ∉ l → lk x.2 p = lk d p) ⟨rfl, fun _ _ => rfl⟩ ?_
  rintro i ⟨c, e⟩ hi ⟨rfl, h⟩
  refine Ok.cond (fun hc => ?_) (fun _ => Ok.inr h)
  simp only at hc
  have hil : i < l.length := by omega
  refine Ok.gd (by simp only; omega) (Ok.gd hc (Ok.gd (by simp only; omega) (Ok.bind (erI_ok _ _) fun y hy => Ok.inl ⟨hil, ?_, fun p hp => ?_⟩)))
  · simp only
    rw [wrap64 (by omega) (by omega)]; push_cast; rfl
  · simp only [Int.toNat_natCast] at hy ⊢
    rw [hy p (fun e => hp (by rw [e]; exact getD_mem hil))]
    exact h p hp

theorem cpL_ok (c : List Cp) (ph : Int) (d : DT) (hl : c.length ≤ 1000) (hf : ∀ x ∈ c, ∀ y ∈ c, x.1 ≠ (ph, y.2)) (hn : (c.map (·.2)).Nodup) :
    Ok (cpL c ph d) (fun d' => (∀ p, (∀ x ∈ c, p ≠ (ph, x.2)) → lk d' p = lk d p) ∧ ∀ x ∈ c, ∀ v, lk d x.1 = some v → lk d' (ph, x.2) = some v) := by
  unfold cpL
  refine Ok.loop c.length (fun i x => x.1 = (i : Int) ∧ (∀ p, (∀ x ∈ c.take i, p ≠ (ph, x.2)) → lk x.2 p = lk d p) ∧ ∀ y ∈ c.take i, ∀ v, lk d y.1 = some v → lk x.2 (ph, y.2) = some v) ⟨rfl, fun _ _ => rfl, fun y hy => by simp at hy⟩ ?_
  rintro i ⟨k, e⟩ hi ⟨rfl, h1, h2⟩
  have h1 : ∀ p, (∀ x ∈ c.take i, p ≠ (ph, x.2)) → lk e p = lk d p := h1
  have h2 : ∀ y ∈ c.take i, ∀ v, lk d y.1 = some v → lk e (ph, y.2) = some v := h2
  refine Ok.cond (fun hc => ?_) (fun hc => Ok.inr ?_)
  · simp only at hc
    have hil : i < c.length := by omega
    have hx : c.getD i ((0, 0), 0) ∈ c := getD_mem hil
    have htk := take_snoc c i hil ((0, 0), 0)
    simp only [Int.toNat_natCast]
    generalize hz : c.getD i ((0, 0), 0) = z at hx htk
    have hzi : c[i]? = some z := by
      rw [List.getD_eq_getElem?_getD, List.getElem?_eq_getElem hil] at hz
      rw [List.getElem?_eq_getElem hil]; simpa using hz
    have hfrom : lk e z.1 = lk d z.1 := h1 _ fun y hy => hf z hx y (List.mem_of_mem_take hy)
    have hne : ∀ y ∈ c.take i, y.2 ≠ z.2 := by
      intro y hy he
      obtain ⟨j, hj, rfl⟩ := List.getElem_of_mem hy
      have hji : j < i := by simp at hj; omega
      have hjl : j < c.length := by omega
      have := (List.getElem_inj (i := j) (j := i) (h₀ := by simpa using hjl) (h₁ := by simpa using hil) hn).1 (by
        simp only [List.getElem_map]
        have e1 : c[i] = z := by rw [List.getElem?_eq_getElem hil] at hzi; simpa using hzi
        rw [e1, ← he, List.getElem_take])
      omega
    have w : IntKind.wrap .i64 ((i : Int) + 1) = ((i + 1 : Nat) : Int) := by rw [wrap64 (by omega) (by omega)]; push_cast; rfl
    refine Ok.gd (by omega) (Ok.gd hc (Ok.condb (fun hm => Ok.inl ⟨hil, w, fun p hp => ?_, fun y hy v hv => ?_⟩) (fun hm => Ok.inl ⟨hil, w, fun p hp => ?_, fun y hy v hv => ?_⟩)))
    · rw [htk] at hp
      show lk (mset kP (V := Int) e (ph, z.2) _) p = _
      rw [lk_mset, if_neg (hp z (by simp))]
      exact h1 p fun y hy => hp y (by simp [hy])
    · rw [htk] at hy
      show lk (mset kP (V := Int) e (ph, z.2) (mget kP (V := Int) e z.1 0)) (ph, y.2) = _
      rw [lk_mset, mget_lk, hfrom]
      rcases List.mem_append.1 hy with hy | hy
      · rw [if_neg (fun e => hne y hy (by simpa using e))]
        exact h2 y hy v hv
      · simp only [List.mem_singleton] at hy
        subst hy
        rw [if_pos rfl, hv]; rfl
    · rw [htk] at hp
      exact h1 p fun y hy => hp y (by simp [hy])
    · rw [htk] at hy
      rcases List.mem_append.1 hy with hy | hy
      · exact h2 y hy v hv
      · simp only [List.mem_singleton] at hy
        subst hy
        have hm : mhas kP (V := Int) e y.1 = false := hm
        rw [mhas_lk, hfrom, hv] at hm
        simp at hm
  · simp only at hc ⊢
    have : c.take i = c := List.take_of_length_le (by omega)
    rw [this] at h1 h2
    exact ⟨h1, h2⟩

section
variable {Q : Nat} {L K : Int} {D : List Int} {H : List Bool} {S : Int × (Int × Int)} {G : List Log}

theorem pos_at {n : Int} : ∀ {l : List Int} {k : Nat}, pos n l = some k → k < l.length ∧ l.getD k 0 = n
  | [], _, h => by simp [pos] at h
  | x :: l, k, h => by
    unfold pos at h
    split at h
    · rename_i e
      simp only [Option.some.injEq] at h
      subst h
      simp [e]
    · cases hp : pos n l with
      | none => simp [hp] at h
      | some j =>
        simp only [hp, Option.map_some, Option.some.injEq] at h
        subst h
        obtain ⟨h1, h2⟩ := pos_at hp
        exact ⟨by simp; omega, by simpa using h2⟩

theorem loc_at {n : Int} {p : Int × Int} : ∀ {G : List Log}, loc n G = some p → ∃ g ∈ G, ∃ k : Nat, p = (g.1, (k : Int)) ∧ k < g.2.length ∧ g.2.getD k 0 = n
  | [], h => by simp [loc] at h
  | g :: G, h => by
    unfold loc at h
    split at h
    · rename_i k hk
      simp only [Option.some.injEq] at h
      obtain ⟨h1, h2⟩ := pos_at hk
      exact ⟨g, by simp, k, h.symm, h1, h2⟩
    · obtain ⟨g', hg, k, h1, h2, h3⟩ := loc_at h
      exact ⟨g', by simp [hg], k, h1, h2, h3⟩

inductive At (Q : Nat) (D : List Int) (S : Int × (Int × Int)) (G : List Log) (n : Nat) : Int × Int → Prop
  | log (g : Log) (k : Nat) : g ∈ G → k < g.2.length → g.2.getD k 0 = (n : Int) → At Q D S G n (g.1, (k : Int))
  | seq : 0 ≤ S.1 → S.2.1 = ((n / Q : Nat) : Int) → ((n % Q : Nat) : Int) < S.2.2 → At Q D S G n (S.1, ((n % Q : Nat) : Int))
  | dat : n / Q < D.length → 0 ≤ D.getD (n / Q) 0 → At Q D S G n (D.getD (n / Q) 0, ((n % Q : Nat) : Int))

theorem wh_at (h : Good Q L K D H S G) {n : Nat} (hn : n < H.length) (hw : (wh Q D H S G n).2.1 = true) : At Q D S G n (wh Q D H S G n).1 := by
  unfold wh at hw ⊢
  split
  · rename_i p hp
    obtain ⟨g, hg, k, rfl, h2, h3⟩ := loc_at hp
    exact .log g k hg h2 h3
  · rename_i hp
    rw [hp] at hw
    simp only at hw
    split
    · rename_i hc; exact .seq hc.1 hc.2.1 hc.2.2
    · rename_i hc
      rw [if_neg hc] at hw
      split
      · rename_i hh
        have h1 := h.hd n hn hh
        have h2 := blk_lt ⟨h.li.sh.1, h.li.sh.2.1, h.li.sh.2.2.1, h.li.sh.2.2.2.1, by omega, by omega⟩ h.li.dl h.li.hl n hn
        simp only [Int.toNat_natCast] at h1 h2
        exact .dat h2 h1
      · rename_i hh
        rw [if_neg hh] at hw
        simp at hw

theorem Good.fst0 (h : Good Q L K D H S G) {g : Log} (hg : g ∈ G) : 0 ≤ g.1 := by
  obtain ⟨i, hi, e⟩ := List.getElem_of_mem hg
  have := (h.li.lg i hi).p0
  rw [List.getD_eq_getElem?_getD, List.getElem?_eq_getElem hi] at this
  simpa [e] using this

theorem At.blk (h : Good Q L K D H S G) {n : Nat} {p : Int × Int} (a : At Q D S G n p) : p.1 ∈ blocks D S G := by
  unfold blocks
  cases a with
  | log g k hg _ _ => exact mem_posi.2 ⟨by simp; exact .inr (.inr ⟨g.2, hg⟩), h.fst0 hg⟩
  | seq h0 _ _ => exact mem_posi.2 ⟨by simp, h0⟩
  | dat hl h0 => exact mem_posi.2 ⟨by simp only [List.cons_append, List.mem_cons, List.mem_append]; exact .inr (.inl (getD_mem hl)), h0⟩

theorem fst_inj : ∀ {G : List Log}, (G.map (·.1)).Nodup → ∀ {g g' : Log}, g ∈ G → g' ∈ G → g.1 = g'.1 → g = g'
  | [], _, _, _, h, _, _ => by simp at h
  | x :: G, hn, g, g', h1, h2, e => by
    simp only [List.map_cons, List.nodup_cons, List.mem_map, not_exists, not_and] at hn
    rcases List.mem_cons.1 h1 with q1 | q1 <;> rcases List.mem_cons.1 h2 with q2 | q2
    · rw [q1, q2]
    · exact absurd (by rw [← e, q1]) (hn.1 g' q2)
    · exact absurd (by rw [e, q2]) (hn.1 g q1)
    · exact fst_inj hn.2 q1 q2 e

theorem posi_inj : ∀ {D : List Int}, (posi D).Nodup → ∀ {i j : Nat}, i < D.length → j < D.length → D.getD i 0 = D.getD j 0 → 0 ≤ D.getD i 0 → i = j
  | [], _, i, _, h, _, _, _ => by simp at h
  | x :: D, hn, i, j, hi, hj, e, h0 => by
    have mem : ∀ {k : Nat}, k < D.length → D.getD k 0 = x → 0 ≤ x → False := fun {k} hk he h0 => by
      rw [posi_cons, if_pos h0, List.nodup_cons] at hn
      exact hn.1 (mem_posi.2 ⟨by rw [← he]; exact getD_mem hk, h0⟩)
    have hn' : (posi D).Nodup := by
      rw [posi_cons] at hn
      split at hn
      · exact (List.nodup_cons.1 hn).2
      · exact hn
    cases i with
    | zero => cases j with
      | zero => rfl
      | succ j =>
        simp only [List.getD_cons_zero, List.getD_cons_succ] at e h0
        exact (mem (by simpa using hj) e.symm h0).elim
    | succ i => cases j with
      | zero =>
        simp only [List.getD_cons_zero, List.getD_cons_succ] at e h0
        exact (mem (by simpa using hi) e (by rw [← e]; exact h0)).elim
      | succ j =>
        simp only [List.getD_cons_succ] at e h0
        rw [posi_inj hn' (by simpa using hi) (by simpa using hj) e h0]

structure Sep (D : List Int) (S : Int × (Int × Int)) (G : List Log) : Prop where
  sd : 0 ≤ S.1 → S.1 ∉ D
  sg : ∀ g ∈ G, g.1 ≠ S.1
  dg : ∀ g ∈ G, g.1 ∉ D
  gg : (G.map (·.1)).Nodup
  dd : (posi D).Nodup

theorem Good.sep (h : Good Q L K D H S G) : Sep D S G := by
  have hb := h.nb
  have hg : posi (G.map (·.1)) = G.map (·.1) := posi_all fun x hx => by
    obtain ⟨g, hg, rfl⟩ := List.mem_map.1 hx
    exact h.fst0 hg
  rw [List.cons_append, posi_cons, posi_app, hg] at hb
  have h2 : (posi D ++ G.map (·.1)).Nodup ∧ (0 ≤ S.1 → S.1 ∉ posi D ++ G.map (·.1)) := by
    split at hb
    · exact ⟨(List.nodup_cons.1 hb).2, fun _ => (List.nodup_cons.1 hb).1⟩
    · exact ⟨hb, fun h0 => absurd h0 ‹_›⟩
  obtain ⟨n1, n2⟩ := h2
  obtain ⟨n3, n4, n5⟩ := List.nodup_append.1 n1
  refine ⟨fun h0 hm => n2 h0 (List.mem_append.2 (.inl (mem_posi.2 ⟨hm, h0⟩))), fun g hgm e => ?_, fun g hgm hm => ?_, n4, n3⟩
  · exact n2 (by rw [← e]; exact h.fst0 hgm) (List.mem_append.2 (.inr (by rw [← e]; exact List.mem_map_of_mem hgm)))
  · exact n5 g.1 (mem_posi.2 ⟨hm, h.fst0 hgm⟩) g.1 (List.mem_map_of_mem hgm) rfl

theorem dm {a b Q : Nat} (h1 : a / Q = b / Q) (h2 : a % Q = b % Q) : a = b := by
  rw [← Nat.div_add_mod a Q, ← Nat.div_add_mod b Q, h1, h2]

theorem At.inj (h : Good Q L K D H S G) {n m : Nat} {p : Int × Int} (a : At Q D S G n p) (b : At Q D S G m p) : n = m := by
  have s := h.sep
  generalize hq : p = q at b
  cases a with
  | log g k hg hk hv =>
    cases b with
    | log g' k' hg' hk' hv' =>
      simp only [Prod.mk.injEq] at hq
      obtain ⟨e1, e2⟩ := hq
      have := fst_inj s.gg hg hg' e1
      subst this
      have : k = k' := by omega
      subst this
      rw [hv] at hv'
      exact_mod_cast hv'
    | seq h0 _ _ =>
      simp only [Prod.mk.injEq] at hq
      exact (s.sg g hg hq.1).elim
    | dat hl h0 =>
      simp only [Prod.mk.injEq] at hq
      exact (s.dg g hg (by rw [hq.1]; exact getD_mem hl)).elim
  | seq h0 h1 h2 =>
    cases b with
    | log g' k' hg' hk' hv' =>
      simp only [Prod.mk.injEq] at hq
      exact (s.sg g' hg' hq.1.symm).elim
    | seq g0 g1 g2 =>
      simp only [Prod.mk.injEq, true_and] at hq
      exact dm (by have := h1.symm.trans g1; exact_mod_cast this) (by exact_mod_cast hq)
    | dat hl g0 =>
      simp only [Prod.mk.injEq] at hq
      exact (s.sd h0 (by rw [hq.1]; exact getD_mem hl)).elim
  | dat hl h0 =>
    cases b with
    | log g' k' hg' hk' hv' =>
      simp only [Prod.mk.injEq] at hq
      exact (s.dg g' hg' (by rw [← hq.1]; exact getD_mem hl)).elim
    | seq g0 g1 g2 =>
      simp only [Prod.mk.injEq] at hq
      exact (s.sd g0 (by rw [← hq.1]; exact getD_mem hl)).elim
    | dat hl' g0 =>
      simp only [Prod.mk.injEq] at hq
      exact dm (posi_inj s.dd hl hl' hq.1 h0) (by exact_mod_cast hq.2)

theorem wh_inj (h : Good Q L K D H S G) {n m : Nat} (hn : n < H.length) (hm : m < H.length) (h1 : (wh Q D H S G n).2.1 = true) (h2 : (wh Q D H S G m).2.1 = true) (e : (wh Q D H S G n).1 = (wh Q D H S G m).1) : n = m :=
  At.inj h (wh_at h hn h1) (by rw [e]; exact wh_at h hm h2)

def Keep (Q : Nat) (n : Nat) (D : List Int) (H : List Bool) (S : Int × (Int × Int)) (G : List Log) (d : DT) (D' : List Int) (H' : List Bool) (S' : Int × (Int × Int)) (G' : List Log) (d' : DT) : Prop :=
  (wh Q D' H' S' G' n).2.1 = (wh Q D H S G n).2.1 ∧ ((wh Q D H S G n).2.1 = true → ∀ v, lk d (wh Q D H S G n).1 = some v → lk d' (wh Q D' H' S' G' n).1 = some v)
end
end Go.Proofs.Ytecadglgkhfaaaa
end

section
namespace Go.Proofs.Ytecadglgkhfaaaa
open Go Go.Proofs.AM

section
variable {Q : Nat} {L K : Int} {D : List Int} {H : List Bool} {S : Int × (Int × Int)} {G : List Log}

end
end Go.Proofs.Ytecadglgkhfaaaa
end

section
namespace Go.Proofs.Ytecadglgkhfaaaa
open Go Go.Proofs.AM

theorem cover_len : ∀ (n : Nat) (l : List Int), (∀ j : Nat, j < n → (j : Int) ∈ l) → n ≤ l.length
  | 0, _, _ => Nat.zero_le _
  | n + 1, l, h => by
    have hm := h n (by omega)
    have := cover_len n (l.erase (n : Int)) fun j hj => (List.mem_erase_of_ne (by omega)).2 (h j (by omega))
    rw [List.length_erase_of_mem hm] at this
    have hp : 0 < l.length := List.length_pos_of_mem hm
    omega

theorem frS_ok (u : List Int) (hu : u.length < 256) : Ok (frS u) (fun r => ∃ m : Int, r = .inr m ∧ 0 ≤ m ∧ m ≤ 255 ∧ m ∉ u) := by
  unfold frS
  refine Ok.loop 256 (fun i x => x = (i : Int) ∧ ∀ j : Nat, j < i → (j : Int) ∈ u) ⟨rfl, fun j hj => by omega⟩ ?_
  rintro i x hi ⟨rfl, h⟩
  refine Ok.cond (fun hc => ?_) (fun hc => ?_)
  · rw [m76_eq u (i : Int) (by omega)]
    simp only [Option.bind_some]
    refine Ok.condb (fun hm => Ok.inr ⟨(i : Int), rfl, by omega, by omega, by simpa using hm⟩) (fun hm => Ok.inl ⟨by omega, ?_, fun j hj => ?_⟩)
    · rw [wrap64 (by omega) (by omega)]; push_cast; rfl
    · by_cases e : j = i
      · subst e; simpa using hm
      · exact h j (by omega)
  · have : i = 256 := by omega
    subst this
    have := cover_len 256 u h
    omega

theorem nilL_eq (d : DT) : nilL d = some d := by
  unfold nilL
  rw [loopM_eq]
  rfl

theorem finS_zero (cnt : Int) (t : Tab) (d : DT) : finS cnt 0 t d = some (.inl ((Go.IntKind.wrap .i64 (cnt + (1 : Int))), flat t d)) := rfl

def cntp (l : List Int) : Nat := (posi l).length

def phi (Q : Nat) (K : Int) (S : Int × (Int × Int)) (G : List Log) (n : Nat) : Nat :=
  if n % Q = 0 then (if S.1 < 0 then 2 else if S.2.1 = ((n / Q : Nat) : Int) ∧ S.2.2 = 0 then 1 else 3)
  else if 0 ≤ S.1 ∧ S.2.1 = ((n / Q : Nat) : Int) ∧ S.2.2 = ((n % Q : Nat) : Int) then 1
  else if room Q G = true then 1 else if (G.length : Int) < K then 2 else cntp (G.getD 0 (0, [])).2 + 3

theorem phi_pos (Q : Nat) (K : Int) (S : Int × (Int × Int)) (G : List Log) (n : Nat) : 1 ≤ phi Q K S G n := by
  unfold phi
  repeat' split
  all_goals omega

section
variable {Q : Nat} {L K : Int} {D : List Int} {H : List Bool} {S : Int × (Int × Int)} {G : List Log}

theorem phi_le (h : Good Q L K D H S G) (n : Nat) : phi Q K S G n ≤ Q + 3 := by
  have hQ := h.li.sh.1
  unfold phi
  repeat' split
  all_goals first | omega | skip
  have h1 : cntp (G.getD 0 (0, [])).2 ≤ Q := by
    unfold cntp
    refine Nat.le_trans (posi_len _) ?_
    by_cases hG : 0 < G.length
    · have := (h.li.lg 0 hG).le; omega
    · have : G = [] := List.eq_nil_of_length_eq_zero (by omega)
      subst this; simp
  omega

def Mv (Q : Nat) (L K : Int) (n : Nat) (D : List Int) (H : List Bool) (S : Int × (Int × Int)) (G : List Log) (d : DT) (cnt : Int) (r : WX ⊕ WE) : Prop :=
  ∃ D' H' S' G' d', r = .inl (Go.IntKind.wrap .i64 (cnt + 1), flat ((Q : Int), (L, (K, (D', (H', (S', G')))))) d') ∧ Good Q L K D' H' S' G' ∧ H'.length = H.length ∧ D'.length = D.length ∧
    (∀ k, k < H.length → Keep Q k D H S G d D' H' S' G' d') ∧ phi Q K S' G' n < phi Q K S G n

def Wr (Q : Nat) (L K : Int) (n : Nat) (v : Int) (D : List Int) (H : List Bool) (S : Int × (Int × Int)) (G : List Log) (d : DT) (r : WX ⊕ WE) : Prop :=
  ∃ S' G' d' p, r = .inr (.inr (true, flat ((Q : Int), (L, (K, (D, (H, (S', G')))))) d')) ∧ Good Q L K D H S' G' ∧ wh Q D H S' G' n = (p, (true, ())) ∧ lk d' p = some v ∧
    ∀ k, k < H.length → k ≠ n → Keep Q k D H S G d D H S' G' d'

theorem finP_ok (h : Good Q L K D H S G) {n : Nat} (hn : n < H.length) (v : Int) (d : DT) (s : Int × Int) (he : (putS Q L K D H S G s n).2.2.1 = 0) :
    Ok (finP n v ((Q : Int), (L, (K, (D, (H, (S, G)))))) d s) (Wr Q L K n v D H S G d) := by
  obtain ⟨S', G', m, hm, hmH, e1, g, w, ks⟩ := put_keeps h s n he
  have hm : m = n := by exact_mod_cast hm.symm
  subst hm
  unfold finP
  rw [m18_spec]
  simp only [Option.bind_some, he, decide_true, Bool.not_true, cond_false]
  refine Ok.some ⟨S', G', _, (putS Q L K D H S G s m).2.1, by rw [e1], g, w, ?_, fun k hk hkn => ?_⟩
  · show lk (mset kP (V := Int) d _ v) _ = _
    rw [lk_mset, if_pos rfl]
  · have hw := ks k hk hkn
    refine ⟨by rw [hw], fun ht u hu => ?_⟩
    show lk (mset kP (V := Int) d _ v) _ = _
    rw [lk_mset, if_neg ?_, ← hw]
    · exact hu
    · intro e
      exact hkn (wh_inj g hk hn (by rw [← hw]; exact ht) (by rw [w]) (by rw [w]; exact e))

theorem openS_seq (h : Good Q L K D H S G) {b ph : Int} (hS : S.1 < 0) (h0 : 0 ≤ b) (h1 : b < L) (hf : fresh D S G ph) : openS Q L K D H S G (3, b) ph = (((Q : Int), (L, (K, (D, (H, ((ph, (b, 0)), G)))))), (0, ())) := by
  unfold openS
  rw [if_neg (Classical.not_not.2 h), if_neg (Classical.not_not.2 hf), if_pos ⟨rfl, hS, h0, h1⟩]

theorem openS_rand (h : Good Q L K D H S G) {b ph : Int} (hK : (G.length : Int) < K) (hr : room Q G = false) (hf : fresh D S G ph) : openS Q L K D H S G (4, b) ph = (((Q : Int), (L, (K, (D, (H, (S, G ++ [(ph, [])])))))), (0, ())) := by
  unfold openS
  rw [if_neg (Classical.not_not.2 h), if_neg (Classical.not_not.2 hf), if_neg (by simp), if_pos ⟨rfl, hK, hr⟩]

theorem finO_ok (h : Good Q L K D H S G) (n : Nat) (cnt : Int) (d : DT) (s : Int × Int) {ph : Int} (hf : fresh D S G ph) {S' : Int × (Int × Int)} {G' : List Log} (eo : openS Q L K D H S G s ph = (((Q : Int), (L, (K, (D, (H, (S', G')))))), (0, ()))) (hphi : phi Q K S' G' n < phi Q K S G n) :
    Ok (finO cnt ((Q : Int), (L, (K, (D, (H, (S, G)))))) d s ph) (Mv Q L K n D H S G d cnt) := by
  obtain ⟨S1, G1, e1, g, w⟩ := open_keeps h s ph (by rw [eo])
  rw [eo] at e1
  simp only [Prod.mk.injEq, true_and] at e1
  obtain ⟨rfl, rfl⟩ := e1
  unfold finO
  refine Ok.bind (erG_ok [ph] d (by simp)) fun d1 hd1 => ?_
  rw [m15_spec, nilL_eq, eo]
  simp only [Option.bind_some, finS_zero]
  refine Ok.some ⟨D, H, S', G', d1, rfl, g, rfl, rfl, fun k hk => ?_, hphi⟩
  refine ⟨by rw [w k hk], fun ht u hu => ?_⟩
  rw [← w k hk, hd1 _ ?_]
  · exact hu
  · have := (wh_at h hk ht).blk h
    simp only [List.mem_singleton]
    intro e
    exact hf.2.2 (by rw [← e]; exact this)

theorem cps_mem (b u : Nat) : ∀ (k : Nat) (x : Cp), x ∈ cps Q D H S G b u k ↔ ∃ o, o < k ∧ (wh Q D H S G (b * Q + (u + o))).2.1 = true ∧ x = ((wh Q D H S G (b * Q + (u + o))).1, ((u + o : Nat) : Int))
  | 0, x => by simp [cps]
  | k + 1, x => by
    rw [cps, List.mem_append, cps_mem b u k x]
    constructor
    · rintro (⟨o, ho, h1, h2⟩ | hx)
      · exact ⟨o, by omega, h1, h2⟩
      · split at hx
        · rename_i hw
          simp only [List.mem_singleton] at hx
          exact ⟨k, by omega, hw, hx⟩
        · simp at hx
    · rintro ⟨o, ho, h1, h2⟩
      by_cases e : o = k
      · subst e; right; rw [if_pos h1, List.mem_singleton]; exact h2
      · exact .inl ⟨o, by omega, h1, h2⟩

theorem cps_nodup (b u : Nat) : ∀ k, ((cps Q D H S G b u k).map (·.2)).Nodup
  | 0 => by simp [cps]
  | k + 1 => by
    rw [cps, List.map_append, List.nodup_append]
    refine ⟨cps_nodup b u k, ?_, ?_⟩
    · split <;> simp
    · intro x hx y hy
      obtain ⟨z, hz, rfl⟩ := List.mem_map.1 hx
      have := cps_ge b u k z hz
      split at hy
      · simp only [List.map_cons, List.map_nil, List.mem_singleton] at hy
        subst hy
        omega
      · simp at hy

theorem mem_sortI {l : List Int} {x : Int} : x ∈ sortI l ↔ x ∈ l := (sortI_perm l).mem_iff

theorem not_delI {l m : List Int} {x : Int} (h : x ∈ m) : x ∉ delI l m := by
  unfold delI
  simp [h]

theorem finF_ok (h : Good Q L K D H S G) (n : Nat) (cnt : Int) (d : DT) {s : Int × Int} {b : Nat} (hs : s.2 = b) (hb : (b : Int) < L) {ph : Int} (hf : fresh D S G ph) (hphi : phi Q K (setS S b) (G.map (fgc (inb Q b))) n < phi Q K S G n) :
    Ok (finF cnt ((Q : Int), (L, (K, (D, (H, (S, G)))))) d s ph) (Mv Q L K n D H S G d cnt) := by
  have hg := good_settle h hb hf.1 hf.2.1 (sub_blocks b hf.2.2 hf.1)
  have hble := blk_le h hb
  have hQ : 0 < Q := by have := h.li.sh.1; omega
  have inB : ∀ {k : Nat}, k < H.length → (wh Q D H S G k).2.1 = true → (wh Q D H S G k).1.1 ≠ ph := fun hk ht e => hf.2.2 (by rw [← e]; exact (wh_at h hk ht).blk h)
  unfold finF
  rw [hs, m32_spec h]
  simp only [Option.bind_some, foldL]
  rw [if_pos ⟨by omega, hb⟩, Int.toNat_natCast]
  have hfr : ∀ x ∈ cps Q D H S G b 0 Q, x.1.1 ≠ ph := fun x hx => by
    obtain ⟨o, ho, hw, rfl⟩ := (cps_mem b 0 Q x).1 hx
    exact inB (by omega) hw
  refine Ok.bind (cpL_ok _ ph d (by have := cps_len (D := D) (H := H) (S := S) (G := G) (Q := Q) b 0 Q; have := h.li.sh.2.1; omega) (fun x hx y hy e => hfr x hx (by rw [e])) (cps_nodup b 0 Q)) fun d1 hd1 => ?_
  refine Ok.bind (m26_ok h (b : Int) ph) fun z hz => ?_
  rcases hz with ⟨b', hbb, _, _, e0, e1, e2⟩ | ⟨_, hno⟩
  rotate_left
  · exact absurd ⟨by omega, hb, hf⟩ hno
  have : b' = b := by exact_mod_cast hbb.symm
  subst this
  rw [e0, e1, e2]
  have hl : (delI (sortI (blocks D S G)) (sortI (blocks (D.set b' ph) (setS S b') (G.map (fgc (inb Q b')))))).length ≤ 100000 := by
    refine Nat.le_trans (delI_le _ _) ?_
    rw [sortI_len]; have := blocks_len h; omega
  refine Ok.bind (erL_ok _ d1 hl) fun d2 hd2 => ?_
  rw [finS_zero]
  refine Ok.some ⟨_, _, _, _, d2, rfl, hg, setH_len h hb, by simp, fun k hk => ?_, hphi⟩
  have hk' : k < (setH Q D H S G b').length := by rw [setH_len h hb]; exact hk
  have last : ∀ {u : Int}, (wh Q (D.set b' ph) (setH Q D H S G b') (setS S b') (G.map (fgc (inb Q b'))) k).2.1 = true → lk d1 (wh Q (D.set b' ph) (setH Q D H S G b') (setS S b') (G.map (fgc (inb Q b'))) k).1 = some u → lk d2 (wh Q (D.set b' ph) (setH Q D H S G b') (setS S b') (G.map (fgc (inb Q b'))) k).1 = some u := fun ht hu => by
    rw [hd2 _ (not_delI (mem_sortI.2 ((wh_at hg hk' ht).blk hg)))]; exact hu
  by_cases e : k / Q = b'
  · obtain ⟨o, ho, rfl⟩ : ∃ o, o < Q ∧ k = b' * Q + o := ⟨k % Q, Nat.mod_lt _ hQ, by rw [← e, Nat.mul_comm]; exact (Nat.div_add_mod k Q).symm⟩
    have hw := wh_settle_in h hb (ph := ph) ho
    by_cases ht : (wh Q D H S G (b' * Q + o)).2.1 = true
    · rw [if_pos ht] at hw
      refine ⟨by rw [hw, ht], fun _ u hu => last (by rw [hw]) ?_⟩
      rw [hw]
      have := hd1.2 _ ((cps_mem b' 0 Q ((wh Q D H S G (b' * Q + o)).1, (o : Int))).2 ⟨o, ho, by simpa using ht, by simp⟩) u hu
      exact this
    · rw [if_neg ht] at hw
      refine ⟨by rw [hw]; simpa using ht, fun hh => absurd hh ht⟩
  · have hw := wh_settle_out h hb (ph := ph) e
    refine ⟨by rw [← hw], fun ht u hu => last (by rw [← hw]; exact ht) ?_⟩
    rw [← hw, hd1.1 _ (fun x _ e => inB hk ht (by rw [e]))]
    exact hu

theorem finW_ok (h : Good Q L K D H S G) (n : Nat) (cnt : Int) (d : DT) {b : Nat} (hS : 0 ≤ S.1) (hb : S.2.1 = (b : Int)) (ho : ¬ ovr Q S G) (hphi : phi Q K (setS S b) (G.map (fgc (inb Q b))) n < phi Q K S G n) :
    Ok (finW cnt ((Q : Int), (L, (K, (D, (H, (S, G)))))) d) (Mv Q L K n D H S G d cnt) := by
  obtain ⟨b0, u, hb0, hu, hbL, huQ⟩ := h.seq (by omega)
  have : b0 = b := by rw [hb] at hb0; exact_mod_cast hb0.symm
  subst this
  have hs : S.1 ≤ 255 := by
    rcases h.li.sq with e | e
    · rw [e] at hS; simp at hS
    · exact e.2.1
  have hg := good_settle h hbL hS hs (switch_new h hS hb)
  have hble := blk_le h hbL
  have hQ : 0 < Q := by have := h.li.sh.1; omega
  have sp := h.sep
  have inB : ∀ {k : Nat}, k < H.length → (wh Q D H S G k).2.1 = true → ¬ (k / Q = b0 ∧ k % Q < u) → (wh Q D H S G k).1.1 ≠ S.1 := fun {k} hk ht hno e => by
    have ha := wh_at h hk ht
    generalize (wh Q D H S G k).1 = p at ha e
    cases ha with
    | log g j hgm _ _ => exact sp.sg g hgm e
    | seq _ h1 h2 => exact hno ⟨by rw [hb] at h1; exact_mod_cast h1.symm, by rw [hu] at h2; exact_mod_cast h2⟩
    | dat hl _ => exact sp.sd hS (by rw [← e]; exact getD_mem hl)
  unfold finW
  rw [m34_spec h]
  simp only [Option.bind_some, restL]
  rw [if_neg (by omega), hb, hu, Int.toNat_natCast, Int.toNat_natCast]
  have hfr : ∀ x ∈ cps Q D H S G b0 u (Q - u), x.1.1 ≠ S.1 := fun x hx => by
    obtain ⟨o, ho, hw, rfl⟩ := (cps_mem b0 u (Q - u) x).1 hx
    refine inB (by omega) hw ?_
    obtain ⟨d1, d2⟩ := div_in (Q := Q) (b := b0) (o := u + o) (by omega)
    rw [d1, d2]; omega
  refine Ok.bind (cpL_ok _ S.1 d (by have := cps_len (D := D) (H := H) (S := S) (G := G) (Q := Q) b0 u (Q - u); have := h.li.sh.2.1; omega) (fun x hx y hy e => hfr x hx (by rw [e])) (cps_nodup b0 u (Q - u))) fun d1 hd1 => ?_
  refine Ok.bind (m28_ok h) fun z hz => ?_
  rcases hz with ⟨b', hbb, _, _, _, e0, e1, e2⟩ | ⟨_, hno⟩
  rotate_left
  · exact absurd ⟨hS, ho⟩ hno
  have : b' = b0 := by rw [hb] at hbb; exact_mod_cast hbb.symm
  subst this
  rw [e0, e1, e2]
  have hl : (delI (sortI (blocks D S G)) (sortI (blocks (D.set b' S.1) (setS S b') (G.map (fgc (inb Q b')))))).length ≤ 100000 := by
    refine Nat.le_trans (delI_le _ _) ?_
    rw [sortI_len]; have := blocks_len h; omega
  refine Ok.bind (erL_ok _ d1 hl) fun d2 hd2 => ?_
  rw [finS_zero]
  refine Ok.some ⟨_, _, _, _, d2, rfl, hg, setH_len h hbL, by simp, fun k hk => ?_, hphi⟩
  have hk' : k < (setH Q D H S G b').length := by rw [setH_len h hbL]; exact hk
  have last : ∀ {u : Int}, (wh Q (D.set b' S.1) (setH Q D H S G b') (setS S b') (G.map (fgc (inb Q b'))) k).2.1 = true → lk d1 (wh Q (D.set b' S.1) (setH Q D H S G b') (setS S b') (G.map (fgc (inb Q b'))) k).1 = some u → lk d2 (wh Q (D.set b' S.1) (setH Q D H S G b') (setS S b') (G.map (fgc (inb Q b'))) k).1 = some u := fun ht hu => by
    rw [hd2 _ (not_delI (mem_sortI.2 ((wh_at hg hk' ht).blk hg)))]; exact hu
  by_cases e : k / Q = b'
  · obtain ⟨o, hoQ, rfl⟩ : ∃ o, o < Q ∧ k = b' * Q + o := ⟨k % Q, Nat.mod_lt _ hQ, by rw [← e, Nat.mul_comm]; exact (Nat.div_add_mod k Q).symm⟩
    obtain ⟨q1, q2⟩ := div_in (Q := Q) (b := b') (o := o) hoQ
    have hw := wh_settle_in h hbL (ph := S.1) hoQ
    by_cases ht : (wh Q D H S G (b' * Q + o)).2.1 = true
    · rw [if_pos ht] at hw
      refine ⟨by rw [hw, ht], fun _ v hv => last (by rw [hw]) ?_⟩
      rw [hw]
      show lk d1 (S.1, (o : Int)) = some v
      by_cases hou : o < u
      · have hln : loc ((b' * Q + o : Nat) : Int) G = none := by
          cases hlc : loc ((b' * Q + o : Nat) : Int) G with
          | none => rfl
          | some p =>
            obtain ⟨g, hgm, j, _, hj1, hj2⟩ := loc_at hlc
            refine absurd ⟨g, hgm, _, getD_mem (z := 0) hj1, ?_⟩ ho
            rw [hj2]
            obtain ⟨t1, t2⟩ := div_mod (Q := Q) (n := b' * Q + o)
            rw [t1, t2, q1, q2, hb, hu]
            exact ⟨by omega, rfl, by exact_mod_cast hou⟩
        have hwk : (wh Q D H S G (b' * Q + o)).1 = (S.1, (o : Int)) := by
          unfold wh
          rw [hln, q1, q2, hb, hu]
          simp only
          rw [if_pos ⟨hS, trivial, by exact_mod_cast hou⟩]
        rw [hwk] at hv
        rw [hd1.1 _ (fun x hx e => ?_)]
        · exact hv
        · have := cps_ge b' u (Q - u) x hx
          simp only [Prod.mk.injEq, true_and] at e
          omega
      · have := hd1.2 _ ((cps_mem b' u (Q - u) ((wh Q D H S G (b' * Q + o)).1, (o : Int))).2 ⟨o - u, by omega, by rw [show u + (o - u) = o by omega]; exact ht, by rw [show u + (o - u) = o by omega]⟩) v hv
        exact this
    · rw [if_neg ht] at hw
      refine ⟨by rw [hw]; simpa using ht, fun hh => absurd hh ht⟩
  · have hw := wh_settle_out h hbL (ph := S.1) e
    refine ⟨by rw [← hw], fun ht u hu => last (by rw [← hw]; exact ht) ?_⟩
    rw [← hw, hd1.1 _ (fun x _ e' => inB hk ht (fun hh => e hh.1) (by rw [e']))]
    exact hu

theorem finD_ok {g : Log} (h : Good Q L K D H S (g :: G)) (n : Nat) (cnt : Int) (d : DT) (hg0 : ¬ ∃ p ∈ g.2, 0 ≤ p) (hphi : phi Q K S G n < phi Q K S (g :: G) n) :
    Ok (finD cnt ((Q : Int), (L, (K, (D, (H, (S, g :: G)))))) d) (Mv Q L K n D H S (g :: G) d cnt) := by
  have ed : dropS Q L K D H S (g :: G) = (((Q : Int), (L, (K, (D, (H, (S, G)))))), (g.1, (0, ()))) := by
    unfold dropS
    rw [if_neg (Classical.not_not.2 h)]
    simp only
    rw [if_neg hg0]
  obtain ⟨S1, G1, e1, gd1, w⟩ := drop_keeps h (by rw [ed])
  rw [ed] at e1
  simp only [Prod.mk.injEq, true_and] at e1
  obtain ⟨rfl, rfl⟩ := e1
  unfold finD
  rw [m24_spec, ed]
  simp only [Option.bind_some]
  refine Ok.bind (erG_ok [g.1] d (by simp)) fun d1 hd1 => ?_
  rw [finS_zero]
  have sp := h.sep
  refine Ok.some ⟨D, H, S, G, d1, rfl, gd1, rfl, rfl, fun k hk => ?_, hphi⟩
  refine ⟨by rw [w k hk], fun ht u hu => ?_⟩
  rw [← w k hk, hd1 _ ?_]
  · exact hu
  · have ha := wh_at gd1 hk (by rw [← w k hk]; exact ht)
    rw [← w k hk] at ha
    generalize (wh Q D H S (g :: G) k).1 = p at ha
    simp only [List.mem_singleton]
    cases ha with
    | log g' j hgm _ _ =>
      intro e
      have hn := sp.gg
      simp only [List.map_cons, List.nodup_cons, List.mem_map, not_exists, not_and] at hn
      exact hn.1 g' hgm e
    | seq _ _ _ => exact fun e => sp.sg g (by simp) e.symm
    | dat hl _ => exact fun e => sp.dg g (by simp) (by rw [← e]; exact getD_mem hl)
end
end Go.Proofs.Ytecadglgkhfaaaa
end

section
namespace Go.Proofs.Ytecadglgkhfaaaa
open Go Go.Proofs.AM

theorem stS_eq (page v cnt : Int) (T : Tab) (d : DT) : stS page v (cnt, flat T d) =
    (Option.bind (m13 (T, (page, ()))) fun y6 =>
    bif (!(decide (y6.2.1 = (0 : Int)))) then (some (Sum.inr (Sum.inr (false, flat T d)))) else
    Option.bind (m77 (T, ())) fun y7 => Option.bind (frS y7) fun y8 =>
    Sum.elim (fun _ => doS cnt page v T d y6.1 (-1)) (fun n => doS cnt page v T d y6.1 n) y8) := rfl

theorem doS_1 (cnt page v : Int) (T : Tab) (d : DT) (b ph : Int) : doS cnt page v T d (1, b) ph = finP page v T d (1, b) := rfl
theorem doS_2 (cnt page v : Int) (T : Tab) (d : DT) (b ph : Int) : doS cnt page v T d (2, b) ph = finP page v T d (2, b) := rfl
theorem doS_3 (cnt page v : Int) (T : Tab) (d : DT) (b ph : Int) : doS cnt page v T d (3, b) ph = finO cnt T d (3, b) ph := rfl
theorem doS_4 (cnt page v : Int) (T : Tab) (d : DT) (b ph : Int) : doS cnt page v T d (4, b) ph = finO cnt T d (4, b) ph := rfl
theorem doS_5 (cnt page v : Int) (T : Tab) (d : DT) (b ph : Int) : doS cnt page v T d (5, b) ph = finW cnt T d := rfl
theorem doS_6 (cnt page v : Int) (T : Tab) (d : DT) (b ph : Int) : doS cnt page v T d (6, b) ph = finW cnt T d := rfl
theorem doS_7 (cnt page v : Int) (T : Tab) (d : DT) (b ph : Int) : doS cnt page v T d (7, b) ph = finF cnt T d (7, b) ph := rfl
theorem doS_8 (cnt page v : Int) (T : Tab) (d : DT) (b ph : Int) : doS cnt page v T d (8, b) ph = finF cnt T d (8, b) ph := rfl
theorem doS_9 (cnt page v : Int) (T : Tab) (d : DT) (b ph : Int) : doS cnt page v T d (9, b) ph = finD cnt T d := rfl

section
variable {Q : Nat} {L K : Int} {D : List Int} {H : List Bool} {S : Int × (Int × Int)} {G : List Log}

theorem fstp_none : ∀ {l : List Int}, fstp l = none → ¬ ∃ p ∈ l, 0 ≤ p
  | [], _, ⟨p, hp, _⟩ => by simp at hp
  | x :: l, h, ⟨p, hp, h0⟩ => by
    unfold fstp at h
    split at h
    · simp at h
    · rename_i hx
      rcases List.mem_cons.1 hp with rfl | hp
      · exact hx h0
      · exact fstp_none h ⟨p, hp, h0⟩

theorem cntp_less (c : Int → Bool) {l : List Int} {p : Int} (hp : p ∈ l) (h0 : 0 ≤ p) (hc : c p = true) : cntp (l.map fun p => if c p = true then -1 else p) < cntp l := by
  unfold cntp
  have hs := posi_map_sub c l
  have hle := hs.length_le
  apply Nat.lt_of_le_of_ne hle
  intro e
  have he := hs.eq_of_length e
  have hm : p ∈ posi (l.map fun p => if c p = true then -1 else p) := by rw [he]; exact mem_posi.2 ⟨hp, h0⟩
  obtain ⟨hm, _⟩ := mem_posi.1 hm
  obtain ⟨q, hq, e2⟩ := List.mem_map.1 hm
  split at e2
  · omega
  · rename_i hcq
    subst e2
    exact hcq hc

theorem blocks_lt256 (h : Good Q L K D H S G) (hD : D.length ≤ 100) : (sortI (blocks D S G)).length < 256 := by
  rw [sortI_len]
  unfold blocks
  refine Nat.lt_of_le_of_lt (posi_len _) ?_
  have := h.sz.2.2.1
  simp; omega

theorem setS_own (b : Nat) (h0 : 0 ≤ S.1) (hb : S.2.1 = (b : Int)) : setS S b = (-1, (0, 0)) := by
  unfold setS; rw [if_pos ⟨h0, hb⟩]

theorem st_ok (h : Good Q L K D H S G) {n : Nat} (hn : n < H.length) (hD : D.length ≤ 100) (cnt v : Int) (d : DT) :
    Ok (stS n v (cnt, flat ((Q : Int), (L, (K, (D, (H, (S, G)))))) d)) (fun r => Mv Q L K n D H S G d cnt r ∨ Wr Q L K n v D H S G d r) := by
  rw [stS_eq, m13_spec]
  simp only [Option.bind_some]
  have hsh := h.li.sh
  obtain ⟨t1, t2⟩ := div_mod (Q := Q) (n := n)
  have hQ : 0 < Q := by have := hsh.1; omega
  have hnD := blk_lt ⟨hsh.1, hsh.2.1, hsh.2.2.1, hsh.2.2.2.1, by omega, by omega⟩ h.li.dl h.li.hl n hn
  simp only [Int.toNat_natCast] at hnD
  have hbL : ((n / Q : Nat) : Int) < L := by have := h.li.dl; omega
  have goW : ∀ s : Int × Int, wantS Q L K D H S G n = (s, (0, ())) → (∀ m, fresh D S G m → Ok (doS cnt n v ((Q : Int), (L, (K, (D, (H, (S, G)))))) d s m) (fun r => Mv Q L K n D H S G d cnt r ∨ Wr Q L K n v D H S G d r)) →
      Ok (bif (!(decide ((wantS Q L K D H S G n).2.1 = (0 : Int)))) then (some (Sum.inr (Sum.inr (false, flat ((Q : Int), (L, (K, (D, (H, (S, G)))))) d)))) else
        Option.bind (m77 (((Q : Int), (L, (K, (D, (H, (S, G)))))), ())) fun y7 => Option.bind (frS y7) fun y8 =>
        Sum.elim (fun _ => doS cnt n v ((Q : Int), (L, (K, (D, (H, (S, G)))))) d (wantS Q L K D H S G n).1 (-1)) (fun m => doS cnt n v ((Q : Int), (L, (K, (D, (H, (S, G)))))) d (wantS Q L K D H S G n).1 m) y8) (fun r => Mv Q L K n D H S G d cnt r ∨ Wr Q L K n v D H S G d r) := by
    intro s hs hk
    rw [hs]
    simp only [decide_true, Bool.not_true, cond_false]
    refine Ok.bind (m77_ok h) fun u hu => ?_
    subst hu
    refine Ok.bind (frS_ok _ (blocks_lt256 h hD)) fun r hr => ?_
    obtain ⟨m, rfl, m0, m1, m2⟩ := hr
    exact hk m ⟨m0, m1, fun hm => m2 (mem_sortI.2 hm)⟩
  have wr : ∀ s : Int × Int, (putS Q L K D H S G s n).2.2.1 = 0 → Ok (finP n v ((Q : Int), (L, (K, (D, (H, (S, G)))))) d s) (fun r => Mv Q L K n D H S G d cnt r ∨ Wr Q L K n v D H S G d r) := fun s he => (finP_ok h hn v d s he).mono fun r hr => .inr hr
  have inR : (0 : Int) ≤ (n : Int) ∧ (n : Int) < (H.length : Int) := ⟨by omega, by exact_mod_cast hn⟩
  have put1 : 0 ≤ S.1 → S.2.1 = ((n / Q : Nat) : Int) → S.2.2 = ((n % Q : Nat) : Int) → ∀ b, (putS Q L K D H S G (1, b) n).2.2.1 = 0 := fun a1 a2 a3 b => by
    unfold putS
    rw [if_neg (Classical.not_not.2 h), if_neg (Classical.not_not.2 inR), if_pos ⟨rfl, a1, by rw [t1]; exact a2, by rw [t2]; exact a3⟩]
  have hwd : wantS Q L K D H S G n = if n % Q = 0 then (seqW Q S G ((n / Q : Nat) : Int), (0, ())) else if 0 ≤ S.1 ∧ S.2.1 = ((n / Q : Nat) : Int) ∧ S.2.2 = ((n % Q : Nat) : Int) then ((1, ((n / Q : Nat) : Int)), (0, ())) else (randW Q K G, (0, ())) := by
    unfold wantS
    rw [if_neg (Classical.not_not.2 h), if_neg (Classical.not_not.2 inR), t1, t2]
    by_cases e : n % Q = 0
    · rw [if_pos e, if_pos (by rw [e]; rfl)]
    · rw [if_neg e, if_neg (fun hh => e (by exact_mod_cast hh))]
  by_cases c0 : n % Q = 0
  · rw [if_pos c0] at hwd
    by_cases c1 : S.1 < 0
    · have hs : seqW Q S G ((n / Q : Nat) : Int) = (3, ((n / Q : Nat) : Int)) := by unfold seqW; rw [if_pos c1]
      rw [hs] at hwd
      refine goW _ hwd fun m hm => ?_
      rw [doS_3]
      refine (finO_ok h n cnt d _ hm (openS_seq h c1 (Int.natCast_nonneg _) hbL hm) ?_).mono fun r hr => .inl hr
      unfold phi
      rw [if_pos c0, if_pos c0, if_pos c1, if_neg (by have := hm.1; simp; omega), if_pos ⟨rfl, rfl⟩]
      omega
    · by_cases c2 : S.2.1 = ((n / Q : Nat) : Int) ∧ S.2.2 = 0
      · have hs : seqW Q S G ((n / Q : Nat) : Int) = (1, ((n / Q : Nat) : Int)) := by unfold seqW; rw [if_neg c1, if_pos c2]
        rw [hs] at hwd
        refine goW _ hwd fun m hm => ?_
        rw [doS_1]
        exact wr _ (put1 (by omega) c2.1 (by rw [c2.2, c0]; rfl) _)
      · obtain ⟨b, u, hb, hu, hbL', huQ⟩ := h.seq c1
        have hphi : phi Q K (setS S b) (G.map (fgc (inb Q b))) n < phi Q K S G n := by
          rw [setS_own b (by omega) hb]
          unfold phi
          rw [if_pos c0, if_pos c0, if_pos (by simp), if_neg c1, if_neg c2]
          omega
        by_cases c3 : ovr Q S G
        · have hs : seqW Q S G ((n / Q : Nat) : Int) = (7, S.2.1) := by unfold seqW; rw [if_neg c1, if_neg c2, if_pos c3]
          rw [hs] at hwd
          refine goW _ hwd fun m hm => ?_
          rw [doS_7]
          exact (finF_ok h n cnt d (s := (7, S.2.1)) hb hbL' hm hphi).mono fun r hr => .inl hr
        · by_cases c4 : S.2.2 < (Q : Int)
          · have hs : seqW Q S G ((n / Q : Nat) : Int) = (6, S.2.1) := by unfold seqW; rw [if_neg c1, if_neg c2, if_neg c3, if_pos c4]
            rw [hs] at hwd
            refine goW _ hwd fun m hm => ?_
            rw [doS_6]
            exact (finW_ok h n cnt d (by omega) hb c3 hphi).mono fun r hr => .inl hr
          · have hs : seqW Q S G ((n / Q : Nat) : Int) = (5, S.2.1) := by unfold seqW; rw [if_neg c1, if_neg c2, if_neg c3, if_neg c4]
            rw [hs] at hwd
            refine goW _ hwd fun m hm => ?_
            rw [doS_5]
            exact (finW_ok h n cnt d (by omega) hb c3 hphi).mono fun r hr => .inl hr
  · rw [if_neg c0] at hwd
    by_cases c1 : 0 ≤ S.1 ∧ S.2.1 = ((n / Q : Nat) : Int) ∧ S.2.2 = ((n % Q : Nat) : Int)
    · rw [if_pos c1] at hwd
      refine goW _ hwd fun m hm => ?_
      rw [doS_1]
      exact wr _ (put1 c1.1 c1.2.1 c1.2.2 _)
    · rw [if_neg c1] at hwd
      by_cases c2 : room Q G = true
      · have hs : randW Q K G = (2, 0) := by unfold randW; rw [if_pos c2]
        rw [hs] at hwd
        refine goW _ hwd fun m hm => ?_
        rw [doS_2]
        refine wr _ ?_
        unfold putS
        rw [if_neg (Classical.not_not.2 h), if_neg (Classical.not_not.2 inR), if_neg (by simp), if_pos ⟨rfl, c2⟩]
      · by_cases c3 : (G.length : Int) < K
        · have hs : randW Q K G = (4, 0) := by unfold randW; rw [if_neg c2, if_pos c3]
          rw [hs] at hwd
          refine goW _ hwd fun m hm => ?_
          rw [doS_4]
          refine (finO_ok h n cnt d _ hm (openS_rand h c3 (by simpa using c2) hm) ?_).mono fun r hr => .inl hr
          unfold phi
          rw [if_neg c0, if_neg c0, if_neg c1, if_neg c1, if_neg c2, if_pos c3, if_pos ?_]
          · omega
          · unfold room
            simp
            omega
        · cases hf : fstp (G.getD 0 (0, [])).2 with
          | some p =>
            have hs : randW Q K G = (8, Int.tdiv p Q) := by unfold randW; rw [if_neg c2, if_neg c3, hf]
            rw [hs] at hwd
            refine goW _ hwd fun m hm => ?_
            rw [doS_8]
            obtain ⟨hpm, hp0⟩ := fstp_mem hf
            have hG : 0 < G.length := by
              apply Nat.pos_of_ne_zero
              intro e
              have : G = [] := List.eq_nil_of_length_eq_zero e
              subst this
              simp at hpm
            obtain ⟨j, hj, ej⟩ := List.getElem_of_mem hpm
            have hpg := (h.li.lg 0 hG).pg j hj
            rw [List.getD_eq_getElem?_getD, List.getElem?_eq_getElem hj] at hpg
            simp only [Option.getD_some] at hpg
            rw [ej] at hpg
            obtain ⟨q, rfl⟩ : ∃ q : Nat, p = q := ⟨p.toNat, by omega⟩
            obtain ⟨u1, u2⟩ := div_mod (Q := Q) (n := q)
            have hqH : q < H.length := by have := h.li.hl; omega
            have hqD := blk_lt ⟨hsh.1, hsh.2.1, hsh.2.2.1, hsh.2.2.2.1, by omega, by omega⟩ h.li.dl h.li.hl q hqH
            simp only [Int.toNat_natCast] at hqD
            refine (finF_ok h n cnt d (s := (8, Int.tdiv q Q)) (b := q / Q) u1 (by have := h.li.dl; omega) hm ?_).mono fun r hr => .inl hr
            obtain ⟨g, G', rfl⟩ : ∃ g G', G = g :: G' := by
              cases G with
              | nil => simp at hG
              | cons g G' => exact ⟨g, G', rfl⟩
            simp only [List.getD_cons_zero] at hpm
            have hless := cntp_less (inb Q (q / Q : Nat)) hpm hp0 (by unfold inb; simp [u1])
            have hown : ¬ (0 ≤ (setS S (q / Q)).1 ∧ (setS S (q / Q)).2.1 = ((n / Q : Nat) : Int) ∧ (setS S (q / Q)).2.2 = ((n % Q : Nat) : Int)) := by
              unfold setS; split
              · simp
              · exact c1
            unfold phi
            rw [if_neg c0, if_neg c0, if_neg c1, if_neg hown, room_fgc, if_neg c2, if_neg c2, List.length_map, if_neg c3, if_neg c3]
            simp only [List.map_cons, List.getD_cons_zero]
            unfold fgc
            simp only
            omega
          | none =>
            have hs : randW Q K G = (9, 0) := by unfold randW; rw [if_neg c2, if_neg c3, hf]
            rw [hs] at hwd
            refine goW _ hwd fun m hm => ?_
            rw [doS_9]
            have hK := hsh.2.2.2.2.1
            have hgl := h.li.gl
            cases G with
            | nil => simp at c3; omega
            | cons g G' =>
              simp only [List.getD_cons_zero] at hf
              refine (finD_ok h n cnt d (fstp_none hf) ?_).mono fun r hr => .inl hr
              unfold phi
              rw [if_neg c0, if_neg c0, if_neg c1, if_neg c1, if_neg c2, if_neg c3]
              simp only [List.length_cons] at c3 hgl
              by_cases c4 : room Q G' = true
              · rw [if_pos c4]; omega
              · rw [if_neg c4, if_pos (by omega)]; omega

theorem Keep.refl (k : Nat) (d : DT) : Keep Q k D H S G d D H S G d := ⟨rfl, fun _ _ hv => hv⟩

theorem Keep.trans {k : Nat} {d d' d2 : DT} {D' D2 : List Int} {H' H2 : List Bool} {S' S2 : Int × (Int × Int)} {G' G2 : List Log} (a : Keep Q k D H S G d D' H' S' G' d') (b : Keep Q k D' H' S' G' d' D2 H2 S2 G2 d2) : Keep Q k D H S G d D2 H2 S2 G2 d2 :=
  ⟨b.1.trans a.1, fun ht v hv => b.2 (by rw [a.1]; exact ht) v (a.2 ht v hv)⟩

theorem wr_ok (h : Good Q L K D H S G) {n : Nat} (hn : n < H.length) (hD : D.length ≤ 100) (v : Int) (d : DT) :
    Ok (wrS n v ((Q : Int) + 3) ((Q : Int), (L, (K, (D, (H, (S, G)))))) d) (fun r => ∃ D' H' S' G' d' p, r = .inr (true, flat ((Q : Int), (L, (K, (D', (H', (S', G')))))) d') ∧ Good Q L K D' H' S' G' ∧ H'.length = H.length ∧ D'.length = D.length ∧
      wh Q D' H' S' G' n = (p, (true, ())) ∧ lk d' p = some v ∧ ∀ k, k < H.length → k ≠ n → Keep Q k D H S G d D' H' S' G' d') := by
  unfold wrS
  have hQ2 := h.li.sh.2.1
  refine Ok.loop (Q + 3) (fun i x => ∃ D' H' S' G' d', x = ((i : Int), flat ((Q : Int), (L, (K, (D', (H', (S', G')))))) d') ∧ Good Q L K D' H' S' G' ∧ H'.length = H.length ∧ D'.length = D.length ∧
      (∀ k, k < H.length → Keep Q k D H S G d D' H' S' G' d') ∧ i + phi Q K S' G' n ≤ Q + 3) ⟨D, H, S, G, d, rfl, h, rfl, rfl, fun k _ => Keep.refl k d, by have := phi_le h n; omega⟩ ?_
  rintro i x hi ⟨D', H', S', G', d', rfl, g, hH, hD', hk, hp⟩
  have hpos := phi_pos Q K S' G' n
  refine Ok.cond (fun hc => ?_) (fun hc => ?_)
  rotate_left
  · simp only at hc; omega
  refine (st_ok g (n := n) (by omega) (by omega) (i : Int) v d').mono ?_
  rintro r (⟨D2, H2, S2, G2, d2, rfl, g2, hH2, hD2, hk2, hp2⟩ | ⟨S2, G2, d2, p, rfl, g2, hw, hl, hk2⟩)
  · refine ⟨by omega, D2, H2, S2, G2, d2, ?_, g2, by omega, by omega, fun k hkk => (hk k hkk).trans (hk2 k (by omega)), by omega⟩
    rw [wrap64 (by omega) (by omega)]; push_cast; rfl
  · exact ⟨D', H', S2, G2, d2, p, rfl, g2, hH, hD', hw, hl, fun k hkk hne => (hk k hkk).trans (hk2 k (by omega) hne)⟩
end
end Go.Proofs.Ytecadglgkhfaaaa
end

section
namespace Go.Proofs.Ytecadglgkhfaaaa
open Go Go.Proofs.AM

theorem m8_eq (x : (Int × (Int × (Int × List Int))) × Unit) : m8 x =
    (Option.bind (m10 ()) fun (y1 : (Bool × Unit)) => bif (!y1.1) then (some (false, ())) else
    Option.bind (m30 ((Go.IntKind.wrap .i64 ((Go.IntKind.wrap .i64 (Int.tmod x.1.1 (8 : Int))) + (4 : Int))), ((Go.IntKind.wrap .i64 ((Go.IntKind.wrap .i64 (Int.tmod x.1.2.1 (6 : Int))) + (1 : Int))), ((Go.IntKind.wrap .i64 ((Go.IntKind.wrap .i64 (Int.tmod x.1.2.2.1 (3 : Int))) + (1 : Int))), ())))) fun (y2 : (Tab × (Int × Unit))) =>
    bif (!(decide (y2.2.1 = (0 : Int)))) then (some (false, ())) else
    gd ((0 : Int) ≤ cutN x.1.2.2.2) (gd (cutN x.1.2.2.2 ≤ (((List.length x.1.2.2.2) : Nat) : Int))
      (Option.bind (wsS (List.take ((Int.toNat (cutN x.1.2.2.2)) - (Int.toNat (0 : Int))) (List.drop (Int.toNat (0 : Int)) x.1.2.2.2)) y2.1.2.2.2.2.1 y2.1) fun y3 =>
      Sum.elim (fun y4 => Option.bind (rdS y2.1.2.2.2.2.1 y4) fun y5 =>
        Sum.elim (fun _ => Option.bind (m25 (tab2 y4, ())) fun y7 => some ((decide (y7.1 = (0 : Int))), ())) (fun y6 => some (y6, ())) y5) (fun y4 => some (y4.1, ())) y3))) := by
  rfl
end Go.Proofs.Ytecadglgkhfaaaa
end

section
namespace Go.Proofs.Ytecadglgkhfaaaa
open Go Go.Proofs.AM

def Have (Q : Nat) (D : List Int) (H : List Bool) (S : Int × (Int × Int)) (G : List Log) (d : DT) (l : LT) : Prop :=
  ∀ n, n < H.length → match ifind l (n : Int) with
    | none => (wh Q D H S G n).2.1 = false
    | some v => (wh Q D H S G n).2.1 = true ∧ lk d (wh Q D H S G n).1 = some v

section
variable {Q : Nat} {L K : Int}

theorem ws_ok (ws : List Int) (hws : ws.length ≤ 120) (h0 : ∀ x ∈ ws, 0 ≤ x ∧ x < 65536) {D : List Int} {H : List Bool} {S : Int × (Int × Int)} {G : List Log} (g : Good Q L K D H S G) (hD : D.length ≤ 100) (hv : Have Q D H S G [] []) :
    Ok (wsS ws H ((Q : Int), (L, (K, (D, (H, (S, G))))))) (fun r => ∃ D' H' S' G' d' l', r = .inl (flat2 ((Q : Int), (L, (K, (D', (H', (S', G')))))) d' l') ∧ Good Q L K D' H' S' G' ∧ H'.length = H.length ∧ Have Q D' H' S' G' d' l') := by
  unfold wsS
  have hQ2 := g.li.sh.2.1
  have hH0 : 0 < H.length := by
    have := (shape_mul g.li.sh).1
    have := g.li.hl
    omega
  have hH1 : H.length ≤ 8192 := g.sz.2.1
  refine Ok.loop ws.length (fun i x => ∃ D' H' S' G' d' l', x = ((i : Int), flat2 ((Q : Int), (L, (K, (D', (H', (S', G')))))) d' l') ∧ Good Q L K D' H' S' G' ∧ H'.length = H.length ∧ D'.length = D.length ∧ Have Q D' H' S' G' d' l') ⟨D, H, S, G, [], [], rfl, g, rfl, rfl, hv⟩ ?_
  rintro i x hi ⟨D', H', S', G', d', l', rfl, g', hH, hD', hv'⟩
  refine Ok.cond (fun hc => ?_) (fun _ => Ok.inr ⟨D', H', S', G', d', l', rfl, g', hH, hv'⟩)
  simp only at hc
  have hil : i < ws.length := by omega
  obtain ⟨pg, hpg, hpl⟩ : ∃ pg : Nat, Int.tmod (Go.IntKind.wrap .i64 (List.getD ws (Int.toNat (i : Int)) (0 : Int))) (((List.length H) : Nat) : Int) = (pg : Int) ∧ pg < H.length := by
    obtain ⟨a, b⟩ := h0 _ (getD_mem (z := 0) hil)
    rw [Int.toNat_natCast, wrap64 (by omega) (by omega)]
    obtain ⟨q, hq⟩ : ∃ q : Nat, ws.getD i 0 = q := ⟨(ws.getD i 0).toNat, by omega⟩
    rw [hq]
    exact ⟨q % H.length, by rw [(div_mod (Q := H.length) (n := q)).2], Nat.mod_lt _ hH0⟩
  have hw : IntKind.wrap .i64 ((Q : Int) + 3) = (Q : Int) + 3 := wrap64 (by omega) (by omega)
  have hwr := wr_ok g' (n := pg) (by omega) (by omega) (i : Int) d'
  rw [← hw, ← hpg] at hwr
  refine Ok.gd (by simp only; omega) (Ok.gd hc (Ok.ite (fun e => ?_) (fun _ => Ok.bind hwr fun r hr => ?_)))
  · omega
  obtain ⟨D2, H2, S2, G2, d2, p, rfl, g2, hH2, hD2, hw2, hl2, hk2⟩ := hr
  have eL : (mset (false, .int .i64) (V := Int) l' (Int.tmod (Go.IntKind.wrap .i64 (List.getD ws (Int.toNat (i : Int)) (0 : Int))) (((List.length H) : Nat) : Int)) (i : Int)) = mset (false, .int .i64) (V := Int) l' (pg : Int) (i : Int) := by rw [hpg]
  have eC : IntKind.wrap .i64 ((i : Int) + 1) = ((i + 1 : Nat) : Int) := by rw [wrap64 (by omega) (by omega)]; push_cast; rfl
  have eA : ((IntKind.wrap .i64 ((i : Int) + 1), flat2 ((Q : Int), (L, (K, (D2, (H2, (S2, G2)))))) d2 (mset (false, .int .i64) (V := Int) l' (Int.tmod (Go.IntKind.wrap .i64 (List.getD ws (Int.toNat (i : Int)) (0 : Int))) (((List.length H) : Nat) : Int)) (i : Int))) : Int × YT) = (((i + 1 : Nat) : Int), flat2 ((Q : Int), (L, (K, (D2, (H2, (S2, G2)))))) d2 (mset (false, .int .i64) (V := Int) l' (pg : Int) (i : Int))) := by rw [eL, eC]
  refine Ok.inl (y := (IntKind.wrap .i64 ((i : Int) + 1), flat2 ((Q : Int), (L, (K, (D2, (H2, (S2, G2)))))) d2 (mset (false, .int .i64) (V := Int) l' (Int.tmod (Go.IntKind.wrap .i64 (List.getD ws (Int.toNat (i : Int)) (0 : Int))) (((List.length H) : Nat) : Int)) (i : Int)))) ⟨hil, D2, H2, S2, G2, d2, mset (false, .int .i64) (V := Int) l' (pg : Int) (i : Int), eA, g2, by omega, by omega, fun n hn => ?_⟩
  · rw [mset_ifind]
    by_cases e : n = pg
    · subst e
      rw [if_pos rfl, hw2]
      exact ⟨rfl, hl2⟩
    · rw [if_neg (by omega)]
      have hh := hv' n (by omega)
      obtain ⟨k1, k2⟩ := hk2 n (by omega) e
      cases hf : ifind l' (n : Int) with
      | none => rw [hf] at hh; simp only at hh ⊢; rw [k1]; exact hh
      | some v => rw [hf] at hh; simp only at hh ⊢; exact ⟨by rw [k1]; exact hh.1, k2 hh.1 v hh.2⟩

theorem rd_ok {D : List Int} {H H0 : List Bool} {S : Int × (Int × Int)} {G : List Log} {d : DT} {l : LT} (g : Good Q L K D H S G) (hH : H.length = H0.length) (hv : Have Q D H S G d l) :
    Ok (rdS H0 (flat2 ((Q : Int), (L, (K, (D, (H, (S, G)))))) d l)) (fun r => r = .inl ()) := by
  unfold rdS
  have hH1 : H.length ≤ 8192 := g.sz.2.1
  refine Ok.loop H0.length (fun i x => x = (i : Int)) rfl ?_
  rintro i x hi rfl
  refine Ok.cond (fun hc => ?_) (fun _ => Ok.inr rfl)
  have hil : i < H.length := by omega
  have hm := m22_good g i hil
  have hh := hv i hil
  have nx : IntKind.wrap .i64 ((i : Int) + 1) = ((i + 1 : Nat) : Int) := by rw [wrap64 (by omega) (by omega)]; push_cast; rfl
  refine Ok.bind (Ok.of hm (T := fun y => y = wh Q D H S G i) rfl) fun y hy => ?_
  subst hy
  show Ok (bif (!(bif (mhas (false, .int .i64) (V := Int) l (i : Int)) then (wh Q D H S G i).2.1 else (!(wh Q D H S G i).2.1))) then (some (Sum.inr (Sum.inr false))) else
      (bif (wh Q D H S G i).2.1 then
        (bif (!(mhas kP (V := Int) d (wh Q D H S G i).1)) then (some (Sum.inr (Sum.inr false))) else
        (bif (!(decide ((mget kP (V := Int) d (wh Q D H S G i).1 (0 : Int)) = (mget (false, (.int .i64)) (V := Int) l (i : Int) (0 : Int))))) then (some (Sum.inr (Sum.inr false))) else
          (some (Sum.inl (Go.IntKind.wrap .i64 ((i : Int) + (1 : Int)))))))
      else (some (Sum.inl (Go.IntKind.wrap .i64 ((i : Int) + (1 : Int))))))) _
  rw [mhas_ifind, mget_ifind, mhas_lk, mget_lk, nx]
  cases hf : ifind l (i : Int) with
  | none =>
    rw [hf] at hh
    simp only at hh
    rw [hh]
    exact Ok.inl ⟨by omega, rfl⟩
  | some v =>
    rw [hf] at hh
    simp only at hh
    rw [hh.1, hh.2]
    simp only [Option.isSome_some, Option.getD_some, Bool.not_true, cond_false, cond_true, decide_true]
    exact Ok.inl ⟨by omega, rfl⟩
end

theorem have_new {Q : Nat} {L : Int} : Have Q (List.replicate L.toNat (-1 : Int)) (List.replicate (L * (Q : Int)).toNat false) (-1, (0, 0)) [] [] [] := by
  intro n hn
  show (wh Q _ _ _ _ n).2.1 = false
  unfold wh
  simp only [loc]
  rw [if_neg (by simp), if_neg (by rw [getD_rep]; simp)]

theorem loses (a b c : Int) (w : List Int) (ha : 0 ≤ a) (ha' : a < 256) (hb : 0 ≤ b) (hb' : b < 256) (hc : 0 ≤ c) (hc' : c < 256) (hw : ∀ x ∈ w, 0 ≤ x ∧ x < 65536) : Ok (m8 ((a, (b, (c, w))), ())) (fun r => r = (true, ())) := by
  rw [m8_eq, live_ok]
  simp only [Option.bind_some, Bool.not_true, cond_false]
  obtain ⟨a, rfl⟩ : ∃ n : Nat, a = n := ⟨a.toNat, by omega⟩
  obtain ⟨b, rfl⟩ : ∃ n : Nat, b = n := ⟨b.toNat, by omega⟩
  obtain ⟨c, rfl⟩ : ∃ n : Nat, c = n := ⟨c.toNat, by omega⟩
  have t8 := (div_mod (Q := 8) (n := a)).2
  have t6 := (div_mod (Q := 6) (n := b)).2
  have t3 := (div_mod (Q := 3) (n := c)).2
  have l8 := Nat.mod_lt a (show 0 < 8 by omega)
  have l6 := Nat.mod_lt b (show 0 < 6 by omega)
  have l3 := Nat.mod_lt c (show 0 < 3 by omega)
  rw [show ((8 : Nat) : Int) = 8 from rfl] at t8
  rw [show ((6 : Nat) : Int) = 6 from rfl] at t6
  rw [show ((3 : Nat) : Int) = 3 from rfl] at t3
  rw [t8, t6, t3]
  generalize a % 8 = a at l8
  generalize b % 6 = b at l6
  generalize c % 3 = c at l3
  rw [wrap64 (n := (a : Int)) (by omega) (by omega), wrap64 (n := (b : Int)) (by omega) (by omega), wrap64 (n := (c : Int)) (by omega) (by omega),
    wrap64 (n := (a : Int) + 4) (by omega) (by omega), wrap64 (n := (b : Int) + 1) (by omega) (by omega), wrap64 (n := (c : Int) + 1) (by omega) (by omega)]
  have hs : shape ((a : Int) + 4) ((b : Int) + 1) ((c : Int) + 1) := ⟨by omega, by omega, by omega, by omega, by omega, by omega⟩
  rw [m30_yes hs]
  simp only [Option.bind_some, decide_true, Bool.not_true, cond_false]
  have g := newT_good hs
  have e4 : (a : Int) + 4 = ((a + 4 : Nat) : Int) := by push_cast; rfl
  have hcut : 0 ≤ cutN w ∧ cutN w ≤ (w.length : Int) ∧ cutN w ≤ 120 := by
    unfold cutN
    split <;> omega
  refine Ok.gd hcut.1 (Ok.gd hcut.2.1 ?_)
  have hlen : (List.take ((Int.toNat (cutN w)) - (Int.toNat (0 : Int))) (List.drop (Int.toNat (0 : Int)) w)).length ≤ 120 := by
    rw [List.length_take]; omega
  have hmem : ∀ x ∈ List.take ((Int.toNat (cutN w)) - (Int.toNat (0 : Int))) (List.drop (Int.toNat (0 : Int)) w), 0 ≤ x ∧ x < 65536 := fun x hx => hw x (List.mem_of_mem_drop (List.mem_of_mem_take hx))
  rw [e4] at g
  have hws := ws_ok (Q := a + 4) _ hlen hmem g (by simp; omega) have_new
  rw [e4]
  refine Ok.bind hws fun r hr => ?_
  obtain ⟨D', H', S', G', d', l', rfl, g', hH, hv⟩ := hr
  refine Ok.bind (rd_ok g' hH hv) fun r hr => ?_
  subst hr
  refine Ok.bind (Ok.of (m25_good g') (T := fun y => y = (0, ())) rfl) fun y hy => ?_
  subst hy
  exact Ok.some rfl

theorem PlanLoses_pure : ∀ x : AM.PDen [(true, (.pair (.int .u8) (.pair (.int .u8) (.pair (.int .u8) (.sl (.int .u16))))))], AM.PWf _ x → m8 x = some (true, ()) := by
  rintro ⟨⟨a, b, c, w⟩, ⟨⟩⟩ ⟨⟨ha, hb, hc, hw1, hw2⟩, _⟩
  have u8 : ∀ x : Int, (AM.K.int .u8).wf x → 0 ≤ x ∧ x < 256 := fun x h => by
    have h : (Lit.int .u8 x).wf = true := h
    simp only [Lit.wf, IntKind.min, IntKind.max, IntKind.signed, IntKind.bits, Bool.and_eq_true, decide_eq_true_eq, if_true, Bool.false_eq_true, if_false] at h
    omega
  have u16 : ∀ x : Int, (AM.K.int .u16).wf x → 0 ≤ x ∧ x < 65536 := fun x h => by
    have h : (Lit.int .u16 x).wf = true := h
    simp only [Lit.wf, IntKind.min, IntKind.max, IntKind.signed, IntKind.bits, Bool.and_eq_true, decide_eq_true_eq, if_true, Bool.false_eq_true, if_false] at h
    omega
  exact ok_eq (loses a b c w (u8 a ha).1 (u8 a ha).2 (u8 b hb).1 (u8 b hb).2 (u8 c hc).1 (u8 c hc).2 (fun x hx => u16 x (hw2 x hx)))
end Go.Proofs.Ytecadglgkhfaaaa
end
