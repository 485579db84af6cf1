/- A state told by data is a state. -/
import Derived.Test.YtefekolpfklhdaaAmA15
set_option maxRecDepth 2000
set_option linter.unusedVariables false
set_option linter.unusedSimpArgs false
namespace Go.Proofs.AM
open Go Go.RowKit

theorem All2.left {α β : Type} {R : α → β → Prop} : ∀ {l : List α} {m : List β}, All2 R l m → ∀ a ∈ l, ∃ b, R a b
  | [], _, _, a, h => by simp at h
  | x :: l, y :: m, h, a, ha => by
    rcases List.mem_cons.1 ha with rfl | ha
    · exact ⟨y, h.1⟩
    · exact All2.left h.2 a ha
  | _ :: _, [], h, _, _ => h.elim

/-! ### what a value names lies below -/
def AV.lt (n : Nat) : AV → Prop
  | .ptr l _ | .vf l | .vw l _ _ | .vp l _ _ | .mp l | .yl l | .wk l => l < n
  | .fn _ caps => ∀ l ∈ caps, l < n
  | .ifc _ a => a.lt n
  | _ => True

theorem AV.R_lt {w : World} {N Nf : Nat → Prop} {β : List Bl} {x : AV} {v : Value} (h : x.R w N Nf β v) : x.lt β.length := by
  have len : ∀ {l : Nat} {r : Bl}, β[l]? = some r → l < β.length := fun e => (List.getElem?_eq_some_iff.1 e).1
  induction x generalizing v with
  | junk => trivial
  | dat k y fr => trivial
  | nilsl => trivial
  | nilp => trivial
  | nilf => trivial
  | ro k y off fr => trivial
  | ptr l off => obtain ⟨r, hr, _⟩ := h; exact len hr
  | vf l => obtain ⟨r, _, _, hr, _⟩ := h; exact len hr
  | vw l off n => obtain ⟨r, _, _, hr, _⟩ := h; exact len hr
  | vp l i off => obtain ⟨r, hr, _⟩ := h; exact len hr
  | mp l => obtain ⟨r, hr, _⟩ := h; exact len hr
  | yl l => obtain ⟨r, hr, _⟩ := h; exact len hr
  | wk l => obtain ⟨r, hr, _⟩ := h; exact len hr
  | nili => trivial
  | ifc t a ih => obtain ⟨u, _, hu⟩ := h; exact ih hu
  | fn f caps =>
    obtain ⟨bs, _, hb⟩ := h
    intro l hl
    obtain ⟨b, r, hr, _⟩ := hb.left l hl
    exact len hr

theorem AV.R_pre {w : World} {N Nf : Nat → Prop} {β β' : List Bl} {n : Nat} (hβ : ∀ l, l < n → β'[l]? = β[l]?) {x : AV} {v : Value} (hl : x.lt n) (h : x.R w N Nf β v) : x.R w N Nf β' v := by
  induction x generalizing v with
  | junk => trivial
  | dat k y fr => exact h
  | nilsl => exact h
  | nilp => exact h
  | nilf => exact h
  | ro k y off fr => exact h
  | ptr l off => obtain ⟨r, hr, e⟩ := h; exact ⟨r, by rw [hβ l hl]; exact hr, e⟩
  | vf l => obtain ⟨r, A, c, hr, e⟩ := h; exact ⟨r, A, c, by rw [hβ l hl]; exact hr, e⟩
  | vw l off m => obtain ⟨r, A, c, hr, e⟩ := h; exact ⟨r, A, c, by rw [hβ l hl]; exact hr, e⟩
  | vp l i off => obtain ⟨r, hr, e⟩ := h; exact ⟨r, by rw [hβ l hl]; exact hr, e⟩
  | mp l => obtain ⟨r, hr, e⟩ := h; exact ⟨r, by rw [hβ l hl]; exact hr, e⟩
  | yl l => obtain ⟨r, hr, e⟩ := h; exact ⟨r, by rw [hβ l hl]; exact hr, e⟩
  | wk l => obtain ⟨r, hr, e⟩ := h; exact ⟨r, by rw [hβ l hl]; exact hr, e⟩
  | nili => exact h
  | ifc t a ih => obtain ⟨u, e, hu⟩ := h; exact ⟨u, e, ih hl hu⟩
  | fn f caps =>
    obtain ⟨bs, e, hb⟩ := h
    have hl : ∀ l ∈ caps, l < n := hl
    exact ⟨bs, e, hb.imp fun l hm b ⟨r, hr, e⟩ => ⟨r, by rw [hβ l (hl l hm)]; exact hr, e⟩⟩

def AllLt (n : Nat) (cs : List AV) : Prop := ∀ c ∈ cs, c.lt n

theorem All2.lt {w : World} {N Nf : Nat → Prop} {β : List Bl} : ∀ {cs : List AV} {vs : List Value}, All2 (AV.R w N Nf β) cs vs → AllLt β.length cs
  | [], [], _ => by simp [AllLt]
  | c :: cs, v :: vs, h => by
    intro x hx
    rcases List.mem_cons.1 hx with rfl | hx
    · exact AV.R_lt h.1
    · exact All2.lt h.2 x hx
  | [], _ :: _, h => h.elim
  | _ :: _, [], h => h.elim

theorem All2.pre {w : World} {N Nf : Nat → Prop} {β β' : List Bl} {n : Nat} (hβ : ∀ l, l < n → β'[l]? = β[l]?) : ∀ {cs : List AV} {vs : List Value}, AllLt n cs → All2 (AV.R w N Nf β) cs vs → All2 (AV.R w N Nf β') cs vs
  | [], [], _, _ => trivial
  | c :: cs, v :: vs, hl, h => ⟨AV.R_pre hβ (hl c (by simp)) h.1, All2.pre hβ (fun x hx => hl x (by simp [hx])) h.2⟩
  | [], _ :: _, _, h => h.elim
  | _ :: _, [], _, h => h.elim

def TV.lt (n : Nat) : TV → Prop
  | .one a => a.lt n
  | .agg cs => AllLt n cs
  | .tup cs => ∀ c ∈ cs, AllLt n c.2

theorem TV.R_lt {w : World} {N Nf : Nat → Prop} {β : List Bl} {t : TV} {v : Value} (h : t.R w N Nf β v) : t.lt β.length := by
  cases t with
  | one a => exact AV.R_lt h
  | agg cs => obtain ⟨vs, _, hc⟩ := h; exact hc.lt
  | tup cs =>
    obtain ⟨vs, _, hc⟩ := h
    intro c hm
    obtain ⟨v, hv⟩ := hc.left c hm
    match c, hv with
    | (true, l), ⟨us, _, hu⟩ => exact hu.lt
    | (false, [x]), hx => intro y hy; simp at hy; subst hy; exact AV.R_lt hx

theorem TV.R_pre {w : World} {N Nf : Nat → Prop} {β β' : List Bl} {n : Nat} (hβ : ∀ l, l < n → β'[l]? = β[l]?) {t : TV} {v : Value} (hl : t.lt n) (h : t.R w N Nf β v) : t.R w N Nf β' v := by
  cases t with
  | one a => exact AV.R_pre hβ hl h
  | agg cs => obtain ⟨vs, e, hc⟩ := h; exact ⟨vs, e, hc.pre hβ hl⟩
  | tup cs =>
    obtain ⟨vs, e, hc⟩ := h
    have hl : ∀ c ∈ cs, AllLt n c.2 := hl
    refine ⟨vs, e, hc.imp fun c hm v hv => ?_⟩
    have h0 := hl c hm
    match c, hv, h0 with
    | (true, l), ⟨us, e, hu⟩, h0 => exact ⟨us, e, hu.pre hβ h0⟩
    | (false, [x]), hx, h0 => exact AV.R_pre hβ (h0 x (by simp)) hx

def AObj.lt (n : Nat) : AObj → Prop
  | .box _ cs => AllLt n cs
  | .walk m _ _ _ _ _ _ => m < n
  | _ => True

theorem AObj.R_lt {w : World} {N Nf : Nat → Prop} {β : List Bl} {r : Bl} {o : AObj} (h : o.R w N Nf β r) : o.lt β.length := by
  cases o with
  | box T cs => obtain ⟨vs, _, _, hc⟩ := h; exact hc.lt
  | walk m k v es left cur fr => obtain ⟨l, ck, seen, rm, _, _, _, hm, _⟩ := h; exact (List.getElem?_eq_some_iff.1 hm).1
  | _ => trivial

theorem AObj.R_pre {w : World} {N Nf : Nat → Prop} {β β' : List Bl} {n : Nat} (hβ : ∀ l, l < n → β'[l]? = β[l]?) {r : Bl} {o : AObj} (hl : o.lt n) (h : o.R w N Nf β r) : o.R w N Nf β' r := by
  cases o with
  | box T cs => obtain ⟨vs, e, z, hc⟩ := h; exact ⟨vs, e, z, hc.pre hβ hl⟩
  | walk m k v es left cur fr => obtain ⟨l, ck, seen, rm, h1, h2, h3, hm, h4⟩ := h; exact ⟨l, ck, seen, rm, h1, h2, h3, by rw [hβ m hl]; exact hm, h4⟩
  | dead => exact h
  | vec T k xs fr => exact h
  | mark => exact h
  | lp s => exact h
  | map k v es fr => exact h

/-! ### a state of which less is known -/
section
variable {C : Cx} {s : AS} {β : List Bl} {a : Act} {w : World}

/-- An object of the new state: dead, or what the old one has at 'src' (or nothing yet). -/
def ObjOK (C : Cx) (s : AS) (β β' : List Bl) (w : World) (src : Nat → Option Nat) (j : Nat) (o : Bool × AObj) : Prop :=
  o.2 = .dead ∨ ∃ r, β'[j]? = some r ∧ o.2.R w (C.N s.heap β w) (C.fresh s.heap β w) β' r ∧
    (o.2.occ r = [] ∨ ∃ l o0, src j = some l ∧ s.heap[l]? = some o0 ∧ β[l]? = some r ∧ o.2.occ r = o0.2.occ r)

theorem Rel.mark_at (h : Rel C s β a w) {l : Nat} (hl : l ∈ s.marks) : s.heap[l]? = some (true, .mark) := by
  obtain ⟨bs, _, hb⟩ := h.defers
  obtain ⟨b, r, _, _, e⟩ := hb.left l hl
  exact e

theorem Rel.weaken (h : Rel C s β a w) (t : AS) (β' : List Bl) (src : Nat → Option Nat) (hlen : β'.length = t.heap.length) (htl : t.tmps.length = s.tmps.length) (hm : t.marks = s.marks)
    (hmk : ∀ l ∈ s.marks, t.heap[l]? = some (true, AObj.mark) ∧ β'[l]? = β[l]?)
    (htm : ∀ (i : Nat) (x : TV), t.tmps[i]? = some x → x.R w (C.N s.heap β w) (C.fresh s.heap β w) β' (a.tmps.getD i undef))
    (hob : ∀ (j : Nat) (o : Bool × AObj), t.heap[j]? = some o → ObjOK C s β β' w src j o)
    (hinj : ∀ (j j' l : Nat) (o o' : Bool × AObj), t.heap[j]? = some o → t.heap[j']? = some o' → o.2 ≠ .dead → o'.2 ≠ .dead → src j = some l → src j' = some l → j = j')
    (hfr : ∀ f ∈ C.frs, (∀ l ∈ f.marks, t.heap[l]? = some (true, AObj.mark) ∧ β'[l]? = β[l]?) ∧
      ∀ (i : Nat) (x : TV), f.tmps[i]? = some x → ∀ v, x.R w (C.N s.heap β w) (C.fresh s.heap β w) β v → x.R w (C.N s.heap β w) (C.fresh s.heap β w) β' v) : Rel C t β' a w := by
  have hfree : ∀ b, Free s.heap β b → Free t.heap β' b := by
    intro b hf j o r ho hr hx
    rcases hob j o ho with hd | ⟨r', hr', _, hc⟩
    · rw [hd] at hx; simp [AObj.occ] at hx
    · rw [hr] at hr'; cases hr'
      rcases hc with hc | ⟨l, o0, _, h1, h2, h3⟩
      · rw [hc] at hx; simp at hx
      · exact hf l o0 r h1 h2 (h3 ▸ hx)
  have hN : ∀ b, C.N s.heap β w b → C.N t.heap β' w b := fun b h => ⟨h.1, h.2.1, hfree b h.2.2⟩
  have hNf : ∀ b, C.fresh s.heap β w b → C.fresh t.heap β' w b := fun b h => ⟨h.1, h.2.1, hfree b h.2.2⟩
  have mv : ∀ (x : AV) (v : Value), x.R w (C.N s.heap β w) (C.fresh s.heap β w) β' v → x.R w (C.N t.heap β' w) (C.fresh t.heap β' w) β' v :=
    AV.R_mono (fun _ _ => rfl) hN (fun b h => Cx.fresh_N h) hNf (fun _ _ h => h)
  refine { defers := ?_, tsize := by rw [h.tsize, htl], tm := fun i x hx => TV.R_mono mv _ _ (htm i x hx), bsize := hlen, ob := ?_, occ := ?_, apart := ?_, keep := h.keep, frs := fun f hf => ?_ }
  · obtain ⟨bs, e, hb⟩ := h.defers
    rw [hm]
    exact ⟨bs, e, hb.imp fun l hl b ⟨r, e1, e2, e3⟩ => ⟨r, by rw [(hmk l hl).2]; exact e1, e2, (hmk l hl).1⟩⟩
  · intro j o r ho hr
    rcases hob j o ho with hd | ⟨r', hr', hR, _⟩
    · rw [hd]; trivial
    · rw [hr] at hr'; cases hr'
      exact AObj.R_mono mv (fun _ _ => rfl) hN (fun b h => Cx.fresh_N h) hNf (fun _ _ h => h) _ _ (fun _ _ => rfl) hR
  · intro j o r b ho hr hx
    rcases hob j o ho with hd | ⟨r', hr', _, hc⟩
    · rw [hd] at hx; simp [AObj.occ] at hx
    · rw [hr] at hr'; cases hr'
      rcases hc with hc | ⟨l, o0, _, h1, h2, h3⟩
      · rw [hc] at hx; simp at hx
      · exact h.occ l o0 r b h1 h2 (h3 ▸ hx)
  · intro j j' o o' r r' b ho hr ho' hr' hx hx'
    have ne : o.2 ≠ .dead := fun e => by rw [e] at hx; simp [AObj.occ] at hx
    have ne' : o'.2 ≠ .dead := fun e => by rw [e] at hx'; simp [AObj.occ] at hx'
    rcases hob j o ho with hd | ⟨r1, hr1, _, hc⟩
    · exact absurd hd ne
    rcases hob j' o' ho' with hd | ⟨r2, hr2, _, hc'⟩
    · exact absurd hd ne'
    rw [hr] at hr1; cases hr1
    rw [hr'] at hr2; cases hr2
    rcases hc with hc | ⟨l, o0, g1, g2, g3, g4⟩
    · rw [hc] at hx; simp at hx
    rcases hc' with hc' | ⟨l', o0', g1', g2', g3', g4'⟩
    · rw [hc'] at hx'; simp at hx'
    have := h.apart l l' o0 o0' r r' b g2 g3 g2' g3' (g4 ▸ hx) (g4' ▸ hx')
    subst this
    exact hinj j j' l o o' ho ho' ne ne' g1 g1'
  · have q := h.frs f hf
    obtain ⟨k1, k2⟩ := hfr f hf
    refine ⟨?_, q.tsize, fun i x hx => TV.R_mono mv _ _ (k2 i x hx _ (q.tm i x hx))⟩
    obtain ⟨bs, e, hb⟩ := q.defers
    exact ⟨bs, e, hb.imp fun l hl b ⟨r, e1, e2, e3⟩ => ⟨r, by rw [(k1 l hl).2]; exact e1, e2, (k1 l hl).1⟩⟩
end
end Go.Proofs.AM
