/- A machine that reckons what a function of the program comes to, and that what it reckons is what the program does. No condition. -/
import Derived.Test.YtefekolpfklhdaaAmc
import Derived.Shelf.Slices.CompactI
set_option maxRecDepth 2000
set_option linter.unusedVariables false
set_option linter.unusedSimpArgs false
section
/- slices.Compact of numbers, by the kit's contract. -/
namespace Go.Proofs.AM
open Go Go.RowKit Go.Sort Go.Shelf

/-- The row behind it. -/
def compactI (xs : List Int) : List Int := Lib.compact xs

def compactIDec (T : TypeId) (h : Heap) (ts : List TV) : Option (List Int × Bool) := match ts with
  | [.one (.vf l)] => match hat h l with
    | .vec T' (.int .i64) xs fr => if T' = T then some (xs, fr) else none
    | _ => none
  | [.one .nilsl] => some ([], true)
  | _ => none

def compactIOut (T : TypeId) (h : Heap) (ts : List TV) (fr : Bool) (ys : List Int) : Heap × TV := match ts with
  | .one (.vf l) :: _ => (h.set l (true, .dead) ++ [(true, .vec T kI ys fr)], .one (.vf h.length))
  | _ => (h, .one .nilsl)

/-- Such a call, as a caller meets it. -/
def compactIHD (T : TypeId) : HD where
  X := List Int × Bool
  Y := List (K.den kI)
  dec h ts := compactIDec T h ts
  model x := gd (List.length (α := K.den kI) x.1 ≤ 140737488355328) (some (compactI x.1))
  out h ts x y := compactIOut T h ts x.2 y

theorem compact_le (xs : List Int) : (Lib.compact xs).length ≤ xs.length := by
  unfold Lib.compact Lib.compactUpTo
  rw [List.length_map]
  exact Nat.le_trans (List.length_filter_le _ _) (by simp)

theorem compactIHD_sound {P : Program} {ρ : Ren} (L : Lays2.n20 P ρ) {f : FuncId} {T : TypeId} (hf : ρ.f 20 = f) (hent : ∀ args w, (callFunc f args).run P w = .ok (.enter f args) w) : (compactIHD T).Sound P f := by
  subst hf
  refine ⟨hent, fun x y hxy C s β a w ts vs h hvs hdec => ?_⟩
  obtain ⟨hlen, hxy⟩ := gd_some (show gd (List.length (α := K.den kI) x.1 ≤ 140737488355328) (some (Lib.compact x.1)) = some y from hxy)
  obtain ⟨xs0, fr⟩ := x
  replace hlen : List.length xs0 ≤ 140737488355328 := hlen
  have hxy : Lib.compact xs0 = y := Option.some.inj hxy
  subst hxy
  replace hdec : compactIDec T s.heap ts = some (xs0, fr) := hdec
  show Calls P (ρ.f 20) vs.toArray w fun e w' => ∃ v β', e = .returned v ∧ Rel C { s with heap := (compactIOut T s.heap ts fr (Lib.compact xs0)).1 } β' a w' ∧
      (compactIOut T s.heap ts fr (Lib.compact xs0)).2.R w' (C.N (compactIOut T s.heap ts fr (Lib.compact xs0)).1 β' w') (C.fresh (compactIOut T s.heap ts fr (Lib.compact xs0)).1 β' w') β' v ∧ Grown s.heap (compactIOut T s.heap ts fr (Lib.compact xs0)).1 β β'
  unfold compactIDec at hdec
  split at hdec
  · rename_i l
    split at hdec
    rotate_left
    · simp at hdec
    rename_i T' xs fr' hob
    split at hdec
    rotate_left
    · simp at hdec
    rename_i hT
    subst hT
    simp only [Option.some.injEq, Prod.mk.injEq] at hdec
    obtain ⟨rfl, rfl⟩ := hdec
    match vs, hvs with
    | [v1], ⟨q1, _⟩ =>
    obtain ⟨r, A, c, hr, rfl, hnc, hsl⟩ := q1
    obtain ⟨f0, r', hf, hr', g1, g2, g3, g4⟩ := h.obj hob (by simp)
    rw [hr] at hr'; cases hr'
    have hcl := compact_le xs
    have hll : l < s.heap.length := (List.getElem?_eq_some_iff.1 hf).1
    -- the row, cut off, becomes a row of its own
    have fin : ∀ (w' : World) (ys zs : List Int) (v : Value), ys.length = xs.length → ys.take zs.length = zs → zs.length ≤ ys.length → Rel C (s.upd l (.vec T' kI ys fr')) β a w' →
        (AV.vw l 0 zs.length).R w' (C.N (s.upd l (.vec T' kI ys fr')).heap β w') (C.fresh (s.upd l (.vec T' kI ys fr')).heap β w') β v →
        ∃ v2 β', Ending.returned v = .returned v2 ∧ Rel C { s with heap := (compactIOut T' s.heap [.one (.vf l)] fr' zs).1 } β' a w' ∧
        (compactIOut T' s.heap [.one (.vf l)] fr' zs).2.R w' (C.N (compactIOut T' s.heap [.one (.vf l)] fr' zs).1 β' w') (C.fresh (compactIOut T' s.heap [.one (.vf l)] fr' zs).1 β' w') β' v2 ∧
        Grown s.heap (compactIOut T' s.heap [.one (.vf l)] fr' zs).1 β β' := fun w' ys zs v hyl htake hzl hrel hv => by
      have hat' : hat (s.upd l (.vec T' kI ys fr')).heap l = .vec T' kI ys fr' := by
        unfold hat AS.upd
        simp [hll]
      have eo : aowned (s.upd l (.vec T' kI ys fr')).heap T' kI (.vw l 0 zs.length) = some (zs, fr', some l) := by
        unfold aowned
        simp only [hat', if_true, List.drop_zero, htake]
        rfl
      obtain ⟨rr, hR, A2, c2, e1, e2, e3⟩ := trim_core hrel hv eo
      have hheap : (((s.upd l (.vec T' kI ys fr')).kill (some l)).push (.vec T' kI zs fr')).heap = s.heap.set l (true, .dead) ++ [(true, .vec T' kI zs fr')] := by
        simp [AS.kill, AS.upd, AS.push]
      have hst : ((s.upd l (.vec T' kI ys fr')).kill (some l)).push (.vec T' kI zs fr') = { s with heap := s.heap.set l (true, .dead) ++ [(true, .vec T' kI zs fr')] } := by
        rw [← hheap]; rfl
      rw [hst] at hR
      have hβl : β.length = s.heap.length := h.bsize
      refine ⟨_, β ++ [rr], rfl, hR, ⟨rr, A2, c2, by rw [← hβl]; simp, e1, e2, e3⟩, ⟨⟨[rr], rfl⟩, by simp [compactIOut], fun m o hm ho => ?_, fun m hm => ?_⟩⟩
      · have ho : (s.heap.set l (true, AObj.dead) ++ [(true, AObj.vec T' kI zs fr')])[m]? = some (false, o) := ho
        rw [List.getElem?_append_left (by simpa using hm)] at ho
        by_cases hml : l = m
        · subst hml; simp [hm] at ho
        · rwa [List.getElem?_set_ne hml] at ho
      · show (s.heap.set l (true, AObj.dead) ++ [(true, AObj.vec T' kI zs fr')])[m]? = _
        have hml' : m < s.heap.length := (List.getElem?_eq_some_iff.1 hm).1
        rw [List.getElem?_append_left (by simpa using hml')]
        by_cases hml : l = m
        · subst hml; rw [hf] at hm; simp at hm
        · rw [List.getElem?_set_ne hml]; exact hm
    have hp : K.plain kI = true := rfl
    by_cases hreal : r.real = true ∧ A = r.addr 0
    · obtain ⟨hreal, rfl⟩ := hreal
      simp only [hreal, if_true] at g4
      obtain ⟨pre, mid, post, hh, hpre, hrow, hcap⟩ := g4
      have hmid := rows_flatV hp hrow
      rw [flatV_int] at hmid
      subst hmid
      have hnx : r.n = List.length xs := g1
      have hcall := Any.slices_Compact_int L r.blk r.base c xs w (holds_int hh hpre) (by omega) (by omega)
      have eA : r.addr 0 = some ⟨r.blk, r.base, none⟩ := by simp [Bl.addr]
      rw [eA, g1]
      refine hcall.mono ?_
      rintro e w' ⟨rfl, q, rfl⟩
      obtain ⟨ys, hys⟩ : ∃ ys, ys = Lib.compact xs ++ List.replicate (xs.length - (Lib.compact xs).length) (0 : Int) := ⟨_, rfl⟩
      have hSl : ys.length = xs.length := by rw [hys]; simp; omega
      rw [← hys]
      have h1 : Rel C (s.upd l (.vec T' kI ys fr')) β a (putRow (Value.int .i64) w r.blk r.base ys.toArray) := by
        refine (h.upd (w' := putRow (Value.int .i64) w r.blk r.base ys.toArray) l _ (.vec T' kI ys fr') r hf hr rfl rfl rfl (by simp [putRow, mapBlock]) (fun b _ hb => putRow_otherI _ _ _ _ b (fun e : b = r.blk => hb (by simp [AObj.occ, e, hreal]))) (by simp) (fun b hb => hb) (fun mv hN hNf hbl => ?_)).1
        refine ⟨by rw [g1, hSl], g2, g3, ?_⟩
        simp only [hreal, if_true]
        refine ⟨pre, ys.map (Value.int .i64), post, putRow_heap hh hpre hSl, hpre, ?_, ?_⟩
        · have := flatV_rows (w := putRow (Value.int .i64) w r.blk r.base ys.toArray) (N := if fr' then C.fresh (s.upd l (.vec T' kI ys fr')).heap β (putRow (Value.int .i64) w r.blk r.base ys.toArray) else C.N (s.upd l (.vec T' kI ys fr')).heap β (putRow (Value.int .i64) w r.blk r.base ys.toArray)) hp ys
          rw [flatV_int] at this
          exact this
        · have : (ys.map (Value.int .i64)).length = (xs.map (Value.int .i64)).length := by simp [hSl]
          rw [this]; exact hcap
      have hg : Grew (putRow (Value.int .i64) w r.blk r.base ys.toArray) (putRow (Value.int .i64) (Sort.ahead w q) r.blk r.base ys.toArray) := by
        have e : putRow (Value.int .i64) (Sort.ahead w q) r.blk r.base ys.toArray = Sort.ahead (putRow (Value.int .i64) w r.blk r.base ys.toArray) q := rfl
        rw [e]; exact Grew.ahead _ q
      refine fin _ ys (Lib.compact xs) _ hSl (by rw [hys]; simp) (by omega) (h1.grew hg).1 ⟨r, _, c, hr, rfl, by omega, by omega, ?_⟩
      rcases hsl with ⟨_, _, h3⟩ | h3
      · exact .inl ⟨hreal, by simpa using eA.symm, h3⟩
      · exact .inr ⟨by omega, h3.2⟩
    · have hz : r.n = 0 ∧ c = 0 := by
        rcases hsl with ⟨h1, h2, _⟩ | h2
        · exact absurd ⟨h1, by simpa using h2⟩ hreal
        · exact h2
      have hx0 : xs = [] := List.length_eq_zero_iff.1 (by omega)
      have hS0 : Lib.compact xs = [] := List.length_eq_zero_iff.1 (by rw [hx0] at hcl; simpa [hx0] using hcl)
      rw [hz.1, hS0]
      refine (Any.slices_Compact_int_empty L A c w).mono ?_
      rintro e w' ⟨rfl, rfl⟩
      refine fin w' xs [] _ rfl (by simp) (by simp) ?_ ⟨r, A, c, hr, rfl, by simp, by simp, .inr ⟨rfl, hz.2⟩⟩
      have := weak_step h (l := l) true hf
      simpa using this
  · simp only [Option.some.injEq, Prod.mk.injEq] at hdec
    obtain ⟨rfl, rfl⟩ := hdec
    match vs, hvs with
    | [v1], ⟨q1, _⟩ =>
    replace q1 : v1 = .slice none 0 0 := q1
    subst q1
    refine (Any.slices_Compact_int_empty L none 0 w).mono ?_
    rintro e w' ⟨rfl, rfl⟩
    exact ⟨_, β, rfl, h, rfl, ⟨⟨[], by simp⟩, Nat.le_refl _, fun _ _ _ h => h, fun _ h => h⟩⟩
  · simp at hdec
end Go.Proofs.AM
end
