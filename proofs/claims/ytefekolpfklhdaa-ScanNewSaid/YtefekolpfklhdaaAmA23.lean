/- Regions that draw their order: whatever the order, the reckoning is right. -/
import Derived.Test.YtefekolpfklhdaaAmA22
set_option maxRecDepth 2000
set_option linter.unusedVariables false
set_option linter.unusedSimpArgs false
namespace Go.Proofs.AM
open Go Go.RowKit

def put1 (T : List TV) (d : Option Nat) (t : TV) : List TV := match d with
  | some d => T.set d t
  | none => T

def puts : List Oper → List TV → List TV → List TV
  | o :: l, t :: ts, T => puts l ts (put1 T o.dst t)
  | _, _, T => T

structure StepOK (P : Program) (Γ : Env) (ops : Array Oper) (o : Oper) (T : List TV) (H H' V : Heap) (t : TV) : Prop where
  ex : ∃ t', anorm t' = t ∧ (isEff Γ o = true → ∀ s : AS, LikeT ops o T s.tmps → s.heap = H → ∀ (R : Type) (k : AS → Option R), aop P Γ ops o s k = k ({ s with heap := H' }.put o.dst t')) ∧
    (isEff Γ o = false → ∀ s : AS, LikeT ops o T s.tmps → Sub V s.heap → ∀ (R : Type) (k : AS → Option R), aop P Γ ops o s k = k (s.put o.dst t'))
  push : isEff Γ o = true → isPush Γ o = true → ∃ δ, H' = H ++ δ
  same : isEff Γ o = false → H' = H

section
variable {P : Program} {Γ : Env} {ops : Array Oper}

theorem put1_put (s : AS) (d : Option Nat) (t : TV) : (s.put d t).tmps = put1 s.tmps d t := by cases d <;> rfl
theorem put_heap (s : AS) (d : Option Nat) (t : TV) : (s.put d t).heap = s.heap := by cases d <;> rfl
theorem put_marks (s : AS) (d : Option Nat) (t : TV) : (s.put d t).marks = s.marks := by cases d <;> rfl

def NormUpTo (ops : Array Oper) (i : Nat) (T : List TV) : Prop := ∀ g, g < i → ∀ d, gslot ops g = some d → ∀ c f, T[d]? = some (.one (.dat .bool c f)) → f = true

theorem NormUpTo.put {i : Nat} {T : List TV} {o : Oper} (h : NormUpTo ops i T) (ho : ops[i]? = some o) (t : TV) : NormUpTo ops (i + 1) (put1 T o.dst (anorm t)) := by
  intro g hg d hd c f hT
  cases hdst : o.dst with
  | none =>
    simp only [hdst, put1] at hT
    have : g ≠ i := fun e => by subst e; simp [gslot, ho, hdst] at hd
    exact h g (by omega) d hd c f hT
  | some d' =>
    simp only [hdst, put1] at hT
    by_cases e : d' = d
    · subst e
      rw [List.getElem?_set_self'] at hT
      cases hTd : T[d']? with
      | none => simp [hTd] at hT
      | some u => simp [hTd] at hT; exact anorm_lit hT
    · rw [List.getElem?_set_ne e] at hT
      have : g ≠ i := fun e' => by subst e'; simp only [gslot, ho, hdst, Option.some.injEq] at hd; exact e hd
      exact h g (by omega) d hd c f hT

theorem trace (hgd : ∀ (i : Nat) (o : Oper) (g : Nat) (b : Bool), ops[i]? = some o → o.guard = some (g, b) → g < i) {R : Type} {k : AS → Option R} {r : R} :
    ∀ (l : List (Oper × Nat × Bool)) (i : Nat) (Hs : List Heap) (s : AS), adrs P Γ ops l Hs s k = some r → Hs.length = i + 1 → Hs[i]? = some s.heap →
      (∀ j o lo hid, l[j]? = some (o, lo, hid) → ops[i + j]? = some o ∧ lo ≤ i + j) → NormUpTo ops i s.tmps →
      ∃ (ts : List TV) (Hn : List Heap), ts.length = l.length ∧ Hn.length = l.length ∧
        k { s with tmps := puts (l.map (·.1)) ts s.tmps, heap := (Hs ++ Hn).getD (i + l.length) [] } = some r ∧
        ∀ (j : Nat) (o : Oper) (lo : Nat) (hid : Bool) (t : TV), l[j]? = some (o, lo, hid) → ts[j]? = some t →
          StepOK P Γ ops o (puts ((l.map (·.1)).take j) (ts.take j) s.tmps) ((Hs ++ Hn).getD (i + j) []) ((Hs ++ Hn).getD (i + j + 1) []) (if hid = true then [] else (Hs ++ Hn).getD lo []) t
  | [], i, Hs, s, e, hl, hh, _, _ => by
    refine ⟨[], [], rfl, rfl, ?_, fun j o lo hid t h => by simp at h⟩
    have : (Hs ++ []).getD (i + 0) [] = s.heap := by simp [hh]
    simp only [List.length_nil, this]
    exact e
  | (o, lo, hid) :: l, i, Hs, s, e, hl, hh, hi, hn => by
    obtain ⟨ho, hlo⟩ := hi 0 o lo hid rfl
    simp only [Nat.add_zero] at ho hlo
    have lits : Lits ops o s.tmps := fun g b d hg hd c f hc => hn g (hgd i o g b ho hg) d hd c f hc
    have hcur : ∀ Hn : List Heap, (Hs ++ Hn).getD i [] = s.heap := fun Hn => by
      rw [List.getD_eq_getElem?_getD, List.getElem?_append_left (by omega), hh]; rfl
    have hold : ∀ (Hn : List Heap) (m : Nat), m ≤ i → (Hs ++ Hn).getD m [] = Hs.getD m [] := fun Hn m hm => by
      rw [List.getD_eq_getElem?_getD, List.getElem?_append_left (by omega), ← List.getD_eq_getElem?_getD]
    unfold adrs at e
    split at e
    · rename_i he
      obtain ⟨t', h', e, hpush, hstep⟩ := aop_eff he lits e
      rw [anormAt_put, put_heap] at e
      have hnext : (Hs ++ [h'])[i + 1]? = some ({ s with heap := h' }.put o.dst (anorm t')).heap := by
        rw [put_heap, List.getElem?_append_right (by omega), hl]; simp
      have hn' : NormUpTo ops (i + 1) ({ s with heap := h' }.put o.dst (anorm t')).tmps := by
        rw [put1_put]; exact hn.put ho t'
      obtain ⟨ts, Hn, q1, q2, q3, q4⟩ := trace hgd l (i + 1) (Hs ++ [h']) _ e (by simp [hl]) hnext (fun j o lo hid hj => by
        have := hi (j + 1) o lo hid (by simpa using hj)
        rwa [show i + (j + 1) = i + 1 + j by omega] at this) hn'
      have happ : Hs ++ h' :: Hn = Hs ++ [h'] ++ Hn := by simp
      refine ⟨anorm t' :: ts, h' :: Hn, by simp [q1], by simp [q2], ?_, ?_⟩
      · rw [happ]
        have : (({ s with heap := h' } : AS).put o.dst (anorm t')).marks = s.marks := by rw [put_marks]
        rw [put1_put] at q3
        simp only [List.map_cons, puts, List.length_cons]
        rw [show i + (l.length + 1) = i + 1 + l.length by omega]
        have e3 : ∀ (T : List TV) (H : Heap), ({ (({ s with heap := h' } : AS).put o.dst (anorm t')) with tmps := T, heap := H } : AS) = { s with tmps := T, heap := H } := fun T H => by
          cases o.dst <;> rfl
        rw [e3] at q3
        exact q3
      · intro j o1 lo1 hid1 t1 hj ht
        cases j with
        | zero =>
          simp only [List.getElem?_cons_zero, Option.some.injEq, Prod.mk.injEq] at hj ht
          obtain ⟨rfl, rfl, rfl⟩ := hj
          subst ht
          have hH' : (Hs ++ h' :: Hn).getD (i + 0 + 1) [] = h' := by
            rw [List.getD_eq_getElem?_getD, List.getElem?_append_right (by omega), hl]; simp
          rw [hH', Nat.add_zero, hcur]
          refine ⟨⟨t', rfl, fun _ => ?_, fun h => by rw [he] at h; simp at h⟩, fun _ hp => hpush hp, fun h => by rw [he] at h; simp at h⟩
          simpa [puts] using hstep
        | succ j =>
          have := q4 j o1 lo1 hid1 t1 (by simpa using hj) (by simpa using ht)
          rw [put1_put] at this
          rw [happ, show i + (j + 1) = i + 1 + j by omega]
          simpa [puts] using this
    · rename_i he
      have he : isEff Γ o = false := by simpa using he
      obtain ⟨t', e, hstep⟩ := aop_read (r := { s with heap := if hid = true then [] else Hs.getD lo [] }) he lits e
      have e4 : ({ ({ s with heap := if hid = true then [] else Hs.getD lo [] } : AS).put o.dst t' with heap := s.heap } : AS) = s.put o.dst t' := by cases o.dst <;> rfl
      rw [e4, anormAt_put] at e
      have hnext : (Hs ++ [s.heap])[i + 1]? = some (s.put o.dst (anorm t')).heap := by
        rw [put_heap, List.getElem?_append_right (by omega), hl]; simp
      have hn' : NormUpTo ops (i + 1) (s.put o.dst (anorm t')).tmps := by
        rw [put1_put]; exact hn.put ho t'
      obtain ⟨ts, Hn, q1, q2, q3, q4⟩ := trace hgd l (i + 1) (Hs ++ [s.heap]) _ e (by simp [hl]) hnext (fun j o lo hid hj => by
        have := hi (j + 1) o lo hid (by simpa using hj)
        rwa [show i + (j + 1) = i + 1 + j by omega] at this) hn'
      have happ : Hs ++ s.heap :: Hn = Hs ++ [s.heap] ++ Hn := by simp
      refine ⟨anorm t' :: ts, s.heap :: Hn, by simp [q1], by simp [q2], ?_, ?_⟩
      · rw [happ]
        rw [put1_put] at q3
        simp only [List.map_cons, puts, List.length_cons]
        rw [show i + (l.length + 1) = i + 1 + l.length by omega]
        have e3 : ∀ (T : List TV) (H : Heap), ({ (s.put o.dst (anorm t')) with tmps := T, heap := H } : AS) = { s with tmps := T, heap := H } := fun T H => by
          cases o.dst <;> rfl
        rw [e3] at q3
        exact q3
      · intro j o1 lo1 hid1 t1 hj ht
        cases j with
        | zero =>
          simp only [List.getElem?_cons_zero, Option.some.injEq, Prod.mk.injEq] at hj ht
          obtain ⟨rfl, rfl, rfl⟩ := hj
          subst ht
          have hH' : (Hs ++ s.heap :: Hn).getD (i + 0 + 1) [] = s.heap := by
            rw [List.getD_eq_getElem?_getD, List.getElem?_append_right (by omega), hl]; simp
          rw [hH', Nat.add_zero, hcur, hold _ lo hlo]
          refine ⟨⟨t', rfl, fun h => by rw [he] at h; simp at h, fun _ => ?_⟩, fun h => by rw [he] at h; simp at h, fun _ => rfl⟩
          simpa [puts] using hstep
        | succ j =>
          have := q4 j o1 lo1 hid1 t1 (by simpa using hj) (by simpa using ht)
          rw [put1_put] at this
          rw [happ, show i + (j + 1) = i + 1 + j by omega]
          simpa [puts] using this
end
end Go.Proofs.AM
