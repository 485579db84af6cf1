/- Activations that wait; the record of a loop over a function. -/
import Derived.Test.YtefekolpfklhdaaAmA25
import Derived.RangeFuncIn
import Derived.RangeFuncNested
set_option maxRecDepth 2000
set_option linter.unusedVariables false
set_option linter.unusedSimpArgs false
namespace Go.Proofs.AM
open Go Go.RowKit

section
variable {P : Program} {C : Cx} {s : AS} {β : List Bl} {a : Act} {w : World}

theorem Rel.enter (h : Rel C s β a w) {T : List TV} {vs : Array Value} (hsz : vs.size = T.length) (htm : ∀ (i : Nat) (t : TV), T[i]? = some t → t.R w (C.N s.heap β w) (C.fresh s.heap β w) β (vs.getD i undef)) :
    Rel (C.push s a) { tmps := T, heap := s.heap, marks := [] } β { tmps := vs, defers := [] } w where
  defers := ⟨[], rfl, trivial⟩
  tsize := hsz
  tm := htm
  bsize := h.bsize
  ob := h.ob
  occ := h.occ
  apart := h.apart
  keep := h.keep
  frs f hf := by
    rcases List.mem_cons.1 hf with rfl | hf
    · exact ⟨h.defers, h.tsize, h.tm⟩
    · exact h.frs f hf

theorem Rel.back {s2 : AS} {β2 : List Bl} {a2 : Act} {w2 : World} (h : Rel (C.push s a) s2 β2 a2 w2) : Rel C { s with heap := s2.heap } β2 a w2 := by
  have q := h.frs ⟨s.tmps, s.marks, a⟩ (List.mem_cons_self ..)
  exact { defers := q.defers, tsize := q.tsize, tm := q.tm, bsize := h.bsize, ob := h.ob, occ := h.occ, apart := h.apart, keep := h.keep, frs := fun f hf => h.frs f (List.mem_cons_of_mem _ hf) }

/-- An object's flag is nobody's business. -/
theorem Rel.flag (h : Rel C s β a w) {l : Nat} {f : Bool} {o : AObj} (ho : s.heap[l]? = some (f, o)) (hm : o ≠ .mark) (f' : Bool) : Rel C { s with heap := s.heap.set l (f', o) } β a w := by
  have hll : l < s.heap.length := (List.getElem?_eq_some_iff.1 ho).1
  have := h.gen (s.heap.set l (f', o)) [] w (fun _ => False) rfl rfl rfl (Nat.le_refl _) (by simp)
    (fun l1 o1 h1 _ => by
      by_cases e : l = l1
      · subst e; rw [ho] at h1; cases h1; exact ⟨(f', o), by simp [hll], rfl⟩
      · exact ⟨o1, by rw [List.getElem?_set_ne e]; exact h1, rfl⟩)
    (fun l1 _ h1 => by
      by_cases e : l = l1
      · subst e; rw [ho] at h1; cases h1; exact absurd rfl hm
      · rw [List.getElem?_set_ne e]; exact h1)
    (fun b hb _ => rfl)
    (fun l1 o1 r1 b h1 h2 h3 _ => by
      have h3 := h3.resolve_left id
      have := (List.getElem?_eq_some_iff.1 h1).1
      simp at this; omega)
    (fun l1 l2 o1 o2 r1 r2 b h1 h2 h1' h2' h3 _ _ _ => by
      have h3 := h3.resolve_left id
      have := (List.getElem?_eq_some_iff.1 h1).1
      simp at this; omega)
    (fun l1 o1 r1 h1 h2 h3 _ _ _ _ => by
      have h3 := h3.resolve_left id
      have := (List.getElem?_eq_some_iff.1 h1).1
      simp at this; omega)
  simpa using this.1

theorem Rel.flagTo (h : Rel C s β a w) {l : Nat} {f f' : Bool} {o o' : AObj} (hl : l < s.heap.length) (hm : o' ≠ .mark) (h1 : Rel C { s with heap := s.heap.set l (f, o') } β a w) : Rel C { s with heap := s.heap.set l (f', o') } β a w := by
  have := h1.flag (l := l) (f := f) (o := o') (by simp [hl]) hm f'
  simpa using this

theorem Rel.set_flag {l : Nat} {f f' : Bool} {o' : AObj} (hl : l < s.heap.length) (hm : o' ≠ .mark) (h1 : Rel C { s with heap := s.heap.set l (f, o') } β a w) : Rel C { s with heap := s.heap.set l (f', o') } β a w := by
  have := h1.flag (l := l) (f := f) (o := o') (by simp [hl]) hm f'
  simpa using this

/-- The record of a loop over a function. -/
theorem Rel.lp_at (h : Rel C s β a w) {L : Nat} {f : Bool} {st : LS} (hL : s.heap[L]? = some (f, .lp st)) {rr : Bl} (hr : β[L]? = some rr) : ∃ rc : Loop, rr.rc = some rc ∧ w.heap[rr.blk]? = some (.loop { rc with state := st.st, pending := st.pe }) :=
  h.ob L _ rr hL hr

theorem Rel.lp_turn (h : Rel C s β a w) {L : Nat} {f : Bool} {st : LS} (hL : s.heap[L]? = some (f, .lp st)) {rr : Bl} (hr : β[L]? = some rr) {rc : Loop} (hrc : rr.rc = some rc) (st' : LS) (f' : Bool) :
    Rel C { s with heap := s.heap.set L (f', .lp st') } β a (w.putObj rr.blk (.loop { rc with state := st'.st, pending := st'.pe })) := by
  obtain ⟨rc', hrc', hw⟩ := h.lp_at hL hr
  rw [hrc] at hrc'; cases hrc'
  have hlt : rr.blk < w.heap.size := (Array.getElem?_eq_some_iff.1 hw).1
  have hll : L < s.heap.length := (List.getElem?_eq_some_iff.1 hL).1
  have := (h.upd (w' := w.putObj rr.blk (.loop { rc with state := st'.st, pending := st'.pe })) L _ (.lp st') rr hL hr rfl rfl rfl (by simp [World.putObj]) (fun b _ hb => World.putObj_heap_other (fun e => hb (by simp [AObj.occ, ← e]))) (by simp) (fun b hb => hb)
    (fun _ _ _ _ => ⟨rc, hrc, World.putObj_heap_same hlt⟩)).1
  exact Rel.set_flag hll (by simp) this

theorem Rel.lp_end (h : Rel C s β a w) {L : Nat} {f : Bool} {st : LS} (hL : s.heap[L]? = some (f, .lp st)) {rr : Bl} (hr : β[L]? = some rr) (ob : Obj) :
    Rel C { s with heap := s.heap.set L (true, .dead) } β a (w.putObj rr.blk ob) := by
  exact (h.upd (w' := w.putObj rr.blk ob) L _ .dead rr hL hr rfl rfl rfl (by simp [World.putObj]) (fun b _ hb => World.putObj_heap_other (fun e => hb (by simp [AObj.occ, ← e]))) (by simp) (fun b hb => by simp [AObj.occ] at hb)
    (fun _ _ _ _ => trivial)).1
end

/-- Yield's arguments in a round's temporaries. -/
def putArgs : List TV → List Tmp → List TV → List TV
  | T, p :: ps, t :: ts => putArgs (T.set p t) ps ts
  | T, _, _ => T

theorem putArgs_len : ∀ (T : List TV) (ps : List Tmp) (ts : List TV), (putArgs T ps ts).length = T.length
  | T, p :: ps, t :: ts => by simp [putArgs, putArgs_len]
  | T, [], _ => by simp [putArgs]
  | T, _ :: _, [] => by simp [putArgs]

theorem putArgs_R {w : World} {N Nf : Nat → Prop} {β : List Bl} : ∀ (ps : List Tmp) (ts : List TV) (T : List TV) (vs : Array Value) (us : List Value), vs.size = T.length → (∀ (i : Nat) (t : TV), T[i]? = some t → t.R w N Nf β (vs.getD i undef)) →
    All2 (TV.R w N Nf β) ts us → ∀ (i : Nat) (t : TV), (putArgs T ps ts)[i]? = some t → t.R w N Nf β (((ps.zip us).foldl (fun (tm : Array Value) p => tm.setIfInBounds p.1 p.2) vs).getD i undef)
  | [], ts, T, vs, us, hs, hT, hu, i, t, e => by simpa using hT i t (by simpa [putArgs] using e)
  | p :: ps, [], T, vs, [], hs, hT, hu, i, t, e => by simpa using hT i t (by simpa [putArgs] using e)
  | p :: ps, t0 :: ts, T, vs, u :: us, hs, hT, hu, i, t, e => by
    simp only [List.zip_cons_cons, List.foldl_cons]
    refine putArgs_R ps ts (T.set p t0) (vs.setIfInBounds p u) us (by simp [hs]) (fun j x hx => ?_) hu.2 i t e
    by_cases hp : p = j
    · subst hp
      by_cases hl : p < T.length
      · simp [hl] at hx; subst hx
        have : (vs.setIfInBounds p u).getD p undef = u := by simp [hs, hl]
        rw [this]; exact hu.1
      · simp [hl] at hx
    · rw [List.getElem?_set_ne hp] at hx
      have := hT j x hx
      simpa [Array.getElem?_setIfInBounds_ne hp] using this
  | p :: ps, [], T, vs, _ :: _, _, _, hu, _, _, _ => hu.elim
  | p :: ps, _ :: _, T, vs, [], _, _, hu, _, _, _ => hu.elim

theorem foldl_size : ∀ (l : List (Tmp × Value)) (vs : Array Value), (l.foldl (fun (tm : Array Value) p => tm.setIfInBounds p.1 p.2) vs).size = vs.size
  | [], _ => rfl
  | p :: l, vs => by simp [foldl_size l]
end Go.Proofs.AM
