/- A machine that reckons what a function of the program comes to, and that what it reckons is what the program does. No condition. -/
import Derived.Test.YtjleeabhpfmhaaaAmb
import Derived.OrdersIn
import Derived.RangeFuncIn
import Derived.RangeFuncNested
set_option maxRecDepth 2000
set_option linter.unusedVariables false
set_option linter.unusedSimpArgs false
section
namespace Go.Proofs.AM
open Go Go.RowKit

theorem All2.left {α β : Type} {R : α → β → Prop} : ∀ {l : List α} {m : List β}, All2 R l m → ∀ a ∈ l, ∃ b, R a b
  | [], _, _, a, h => by simp at h
  | x :: l, y :: m, h, a, ha => by
    rcases List.mem_cons.1 ha with rfl | ha
    · exact ⟨y, h.1⟩
    · exact All2.left h.2 a ha
  | _ :: _, [], h, _, _ => h.elim

def AV.lt (n : Nat) : AV → Prop
  | .ptr l _ | .vf l | .vw l _ _ | .vp l _ _ | .mp l | .yl l | .wk l | .st l | .hv l _ _ | .hw l _ _ _ | .dp l _ _ _ => l < n
  | .dv l m _ => l < n ∧ m < n
  | .fn _ caps => ∀ l ∈ caps, l < n
  | .ifc _ a => a.lt n
  | _ => True

theorem AV.R_lt {w : World} {N Nf : Nat → Prop} {β : List Bl} {x : AV} {v : Value} (h : x.R w N Nf β v) : x.lt β.length := by
  have len : ∀ {l : Nat} {r : Bl}, β[l]? = some r → l < β.length := fun e => (List.getElem?_eq_some_iff.1 e).1
  induction x generalizing v with
  | junk => trivial
  | dat k y fr => trivial
  | nilsl => trivial
  | nilp => trivial
  | nilf => trivial
  | ro k y off fr => trivial
  | ptr l off => obtain ⟨r, hr, _⟩ := h; exact len hr
  | vf l => obtain ⟨r, _, _, hr, _⟩ := h; exact len hr
  | vw l off n => obtain ⟨r, _, _, hr, _⟩ := h; exact len hr
  | vp l i off => obtain ⟨r, hr, _⟩ := h; exact len hr
  | mp l => obtain ⟨r, hr, _⟩ := h; exact len hr
  | yl l => obtain ⟨r, hr, _⟩ := h; exact len hr
  | wk l => obtain ⟨r, hr, _⟩ := h; exact len hr
  | st l => obtain ⟨r, hr, _⟩ := h; exact len hr
  | hv l n sz => obtain ⟨r, _, _, hr, _⟩ := h; exact len hr
  | hw l off n sz => obtain ⟨r, _, _, hr, _⟩ := h; exact len hr
  | dv l m i => obtain ⟨rn, r, _, _, _, hn, hr, _⟩ := h; exact ⟨len hn, len hr⟩
  | dp l i j off => obtain ⟨r, _, hr, _⟩ := h; exact len hr
  | nili => trivial
  | ifc t a ih => obtain ⟨u, _, hu⟩ := h; exact ih hu
  | fn f caps =>
    obtain ⟨bs, _, hb⟩ := h
    intro l hl
    obtain ⟨b, r, hr, _⟩ := hb.left l hl
    exact len hr

theorem AV.R_pre {w : World} {N Nf : Nat → Prop} {β β' : List Bl} {n : Nat} (hβ : ∀ l, l < n → β'[l]? = β[l]?) {x : AV} {v : Value} (hl : x.lt n) (h : x.R w N Nf β v) : x.R w N Nf β' v := by
  induction x generalizing v with
  | junk => trivial
  | dat k y fr => exact h
  | nilsl => exact h
  | nilp => exact h
  | nilf => exact h
  | ro k y off fr => exact h
  | ptr l off => obtain ⟨r, hr, e⟩ := h; exact ⟨r, by rw [hβ l hl]; exact hr, e⟩
  | vf l => obtain ⟨r, A, c, hr, e⟩ := h; exact ⟨r, A, c, by rw [hβ l hl]; exact hr, e⟩
  | vw l off m => obtain ⟨r, A, c, hr, e⟩ := h; exact ⟨r, A, c, by rw [hβ l hl]; exact hr, e⟩
  | vp l i off => obtain ⟨r, hr, e⟩ := h; exact ⟨r, by rw [hβ l hl]; exact hr, e⟩
  | mp l => obtain ⟨r, hr, e⟩ := h; exact ⟨r, by rw [hβ l hl]; exact hr, e⟩
  | yl l => obtain ⟨r, hr, e⟩ := h; exact ⟨r, by rw [hβ l hl]; exact hr, e⟩
  | wk l => obtain ⟨r, hr, e⟩ := h; exact ⟨r, by rw [hβ l hl]; exact hr, e⟩
  | st l => obtain ⟨r, hr, e⟩ := h; exact ⟨r, by rw [hβ l hl]; exact hr, e⟩
  | hv l n sz => obtain ⟨r, A, c, hr, e⟩ := h; exact ⟨r, A, c, by rw [hβ l hl]; exact hr, e⟩
  | hw l off m sz => obtain ⟨r, A, c, hr, e⟩ := h; exact ⟨r, A, c, by rw [hβ l hl]; exact hr, e⟩
  | dv l m i => obtain ⟨rn, r, ri, A, c, hn, hr, e⟩ := h; exact ⟨rn, r, ri, A, c, by rw [hβ l hl.1]; exact hn, by rw [hβ m hl.2]; exact hr, e⟩
  | dp l i j off => obtain ⟨r, ri, hr, e⟩ := h; exact ⟨r, ri, by rw [hβ l hl]; exact hr, e⟩
  | nili => exact h
  | ifc t a ih => obtain ⟨u, e, hu⟩ := h; exact ⟨u, e, ih hl hu⟩
  | fn f caps =>
    obtain ⟨bs, e, hb⟩ := h
    have hl : ∀ l ∈ caps, l < n := hl
    exact ⟨bs, e, hb.imp fun l hm b ⟨r, hr, e⟩ => ⟨r, by rw [hβ l (hl l hm)]; exact hr, e⟩⟩

def AllLt (n : Nat) (cs : List AV) : Prop := ∀ c ∈ cs, c.lt n

theorem All2.lt {w : World} {N Nf : Nat → Prop} {β : List Bl} : ∀ {cs : List AV} {vs : List Value}, All2 (AV.R w N Nf β) cs vs → AllLt β.length cs
  | [], [], _ => by simp [AllLt]
  | c :: cs, v :: vs, h => by
    intro x hx
    rcases List.mem_cons.1 hx with rfl | hx
    · exact AV.R_lt h.1
    · exact All2.lt h.2 x hx
  | [], _ :: _, h => h.elim
  | _ :: _, [], h => h.elim

theorem All2.pre {w : World} {N Nf : Nat → Prop} {β β' : List Bl} {n : Nat} (hβ : ∀ l, l < n → β'[l]? = β[l]?) : ∀ {cs : List AV} {vs : List Value}, AllLt n cs → All2 (AV.R w N Nf β) cs vs → All2 (AV.R w N Nf β') cs vs
  | [], [], _, _ => trivial
  | c :: cs, v :: vs, hl, h => ⟨AV.R_pre hβ (hl c (by simp)) h.1, All2.pre hβ (fun x hx => hl x (by simp [hx])) h.2⟩
  | [], _ :: _, _, h => h.elim
  | _ :: _, [], _, h => h.elim

def TV.lt (n : Nat) : TV → Prop
  | .one a => a.lt n
  | .agg cs => AllLt n cs
  | .tup cs => ∀ c ∈ cs, AllLt n c.2
  | .dat _ _ _ => True

theorem TV.R_lt {w : World} {N Nf : Nat → Prop} {β : List Bl} {t : TV} {v : Value} (h : t.R w N Nf β v) : t.lt β.length := by
  cases t with
  | one a => exact AV.R_lt h
  | agg cs => obtain ⟨vs, _, hc⟩ := h; exact hc.lt
  | tup cs =>
    obtain ⟨vs, _, hc⟩ := h
    intro c hm
    obtain ⟨v, hv⟩ := hc.left c hm
    match c, hv with
    | (true, l), ⟨us, _, hu⟩ => exact hu.lt
    | (false, [x]), hx => intro y hy; simp at hy; subst hy; exact AV.R_lt hx
  | dat k x fr => trivial

theorem TV.R_pre {w : World} {N Nf : Nat → Prop} {β β' : List Bl} {n : Nat} (hβ : ∀ l, l < n → β'[l]? = β[l]?) {t : TV} {v : Value} (hl : t.lt n) (h : t.R w N Nf β v) : t.R w N Nf β' v := by
  cases t with
  | one a => exact AV.R_pre hβ hl h
  | agg cs => obtain ⟨vs, e, hc⟩ := h; exact ⟨vs, e, hc.pre hβ hl⟩
  | tup cs =>
    obtain ⟨vs, e, hc⟩ := h
    have hl : ∀ c ∈ cs, AllLt n c.2 := hl
    refine ⟨vs, e, hc.imp fun c hm v hv => ?_⟩
    have h0 := hl c hm
    match c, hv, h0 with
    | (true, l), ⟨us, e, hu⟩, h0 => exact ⟨us, e, hu.pre hβ h0⟩
    | (false, [x]), hx, h0 => exact AV.R_pre hβ (h0 x (by simp)) hx
  | dat k x fr => exact TV.dat_R.2 (TV.dat_R.1 h)

def AObj.lt (n : Nat) : AObj → Prop
  | .box _ cs => AllLt n cs
  | .walk m _ _ _ _ _ _ => m < n
  | .pend m _ _ _ _ _ => m < n
  | .hnd p => p < n
  | .hvec _ _ _ _ _ m => m < n
  | _ => True

theorem AObj.R_lt {w : World} {N Nf : Nat → Prop} {β : List Bl} {r : Bl} {o : AObj} (h : o.R w N Nf β r) : o.lt β.length := by
  cases o with
  | box T cs => obtain ⟨vs, _, _, hc⟩ := h; exact hc.lt
  | walk m k v es left cur fr => obtain ⟨l, ck, seen, rm, _, _, _, hm, _⟩ := h; exact (List.getElem?_eq_some_iff.1 hm).1
  | pend m k v y f fr => obtain ⟨_, _, _, _, _, _, rm, _, hm, _⟩ := h; exact (List.getElem?_eq_some_iff.1 hm).1
  | hnd p => obtain ⟨rp, hp, _⟩ := h; exact (List.getElem?_eq_some_iff.1 hp).1
  | hvec T q xs fr i m => obtain ⟨_, _, _, _, _, hv, _⟩ := h; exact AV.R_lt hv
  | _ => trivial

theorem AObj.R_pre {w : World} {N Nf : Nat → Prop} {β β' : List Bl} {n : Nat} (hβ : ∀ l, l < n → β'[l]? = β[l]?) {r : Bl} {o : AObj} (hl : o.lt n) (h : o.R w N Nf β r) : o.R w N Nf β' r := by
  cases o with
  | box T cs => obtain ⟨vs, e, z, hc⟩ := h; exact ⟨vs, e, z, hc.pre hβ hl⟩
  | walk m k v es left cur fr => obtain ⟨l, ck, seen, rm, h1, h2, h3, hm, h4⟩ := h; exact ⟨l, ck, seen, rm, h1, h2, h3, by rw [hβ m hl]; exact hm, h4⟩
  | dead => exact h
  | vec T k xs fr => exact h
  | mark => exact h
  | lp s => exact h
  | map k v es fr => exact h
  | pend m k v y f fr => obtain ⟨l1, l2, e, ck, es1, es2, rm, h1, hm, h2⟩ := h; exact ⟨l1, l2, e, ck, es1, es2, rm, h1, by rw [hβ m hl]; exact hm, h2⟩
  | dbox T k x fr => exact h
  | hnd p => obtain ⟨rp, hp, e⟩ := h; exact ⟨rp, by rw [hβ p hl]; exact hp, e⟩
  | dvec T T' kh ki xs hole => exact h
  | hvec T q xs fr i m => obtain ⟨pre, m1, v, m2, post, hv, h2⟩ := h; exact ⟨pre, m1, v, m2, post, AV.R_pre hβ (x := .vf m) hl hv, h2⟩

section
variable {C : Cx} {s : AS} {β : List Bl} {a : Act} {w : World}

def ObjOK (C : Cx) (s : AS) (β β' : List Bl) (w : World) (src : Nat → Option Nat) (j : Nat) (o : Bool × AObj) : Prop :=
  o.2 = .dead ∨ ∃ r, β'[j]? = some r ∧ o.2.R w (C.N s.heap β w) (C.fresh s.heap β w) β' r ∧
    (o.2.occ r = [] ∨ ∃ l o0, src j = some l ∧ s.heap[l]? = some o0 ∧ β[l]? = some r ∧ o.2.occ r = o0.2.occ r)

theorem Rel.mark_at (h : Rel C s β a w) {l : Nat} (hl : l ∈ s.marks) : s.heap[l]? = some (true, .mark) := by
  obtain ⟨bs, _, hb⟩ := h.defers
  obtain ⟨b, r, _, _, e⟩ := hb.left l hl
  exact e

theorem Rel.weaken (h : Rel C s β a w) (t : AS) (β' : List Bl) (src : Nat → Option Nat) (hlen : β'.length = t.heap.length) (htl : t.tmps.length = s.tmps.length) (hm : t.marks = s.marks)
    (hmk : ∀ l ∈ s.marks, t.heap[l]? = some (true, AObj.mark) ∧ β'[l]? = β[l]?)
    (htm : ∀ (i : Nat) (x : TV), t.tmps[i]? = some x → x.R w (C.N s.heap β w) (C.fresh s.heap β w) β' (a.tmps.getD i undef))
    (hob : ∀ (j : Nat) (o : Bool × AObj), t.heap[j]? = some o → ObjOK C s β β' w src j o)
    (hinj : ∀ (j j' l : Nat) (o o' : Bool × AObj), t.heap[j]? = some o → t.heap[j']? = some o' → o.2 ≠ .dead → o'.2 ≠ .dead → src j = some l → src j' = some l → j = j')
    (hfr : ∀ f ∈ C.frs, (∀ l ∈ f.marks, t.heap[l]? = some (true, AObj.mark) ∧ β'[l]? = β[l]?) ∧
      ∀ (i : Nat) (x : TV), f.tmps[i]? = some x → ∀ v, x.R w (C.N s.heap β w) (C.fresh s.heap β w) β v → x.R w (C.N s.heap β w) (C.fresh s.heap β w) β' v) : Rel C t β' a w := by
  have hfree : ∀ b, Free s.heap β b → Free t.heap β' b := by
    intro b hf j o r ho hr hx
    rcases hob j o ho with hd | ⟨r', hr', _, hc⟩
    · rw [hd] at hx; simp [AObj.occ] at hx
    · rw [hr] at hr'; cases hr'
      rcases hc with hc | ⟨l, o0, _, h1, h2, h3⟩
      · rw [hc] at hx; simp at hx
      · exact hf l o0 r h1 h2 (h3 ▸ hx)
  have hN : ∀ b, C.N s.heap β w b → C.N t.heap β' w b := fun b h => ⟨h.1, h.2.1, hfree b h.2.2⟩
  have hNf : ∀ b, C.fresh s.heap β w b → C.fresh t.heap β' w b := fun b h => ⟨h.1, h.2.1, hfree b h.2.2⟩
  have mv : ∀ (x : AV) (v : Value), x.R w (C.N s.heap β w) (C.fresh s.heap β w) β' v → x.R w (C.N t.heap β' w) (C.fresh t.heap β' w) β' v :=
    AV.R_mono (fun _ _ => rfl) hN (fun b h => Cx.fresh_N h) hNf (fun _ _ h => h)
  refine { defers := ?_, tsize := by rw [h.tsize, htl], tm := fun i x hx => TV.R_mono mv _ _ (htm i x hx), bsize := hlen, ob := ?_, occ := ?_, apart := ?_, keep := h.keep, frs := fun f hf => ?_ }
  · obtain ⟨bs, e, hb⟩ := h.defers
    rw [hm]
    exact ⟨bs, e, hb.imp fun l hl b ⟨r, e1, e2, e3⟩ => ⟨r, by rw [(hmk l hl).2]; exact e1, e2, (hmk l hl).1⟩⟩
  · intro j o r ho hr
    rcases hob j o ho with hd | ⟨r', hr', hR, _⟩
    · rw [hd]; trivial
    · rw [hr] at hr'; cases hr'
      exact AObj.R_mono mv (fun _ _ => rfl) hN (fun b h => Cx.fresh_N h) hNf (fun _ _ h => h) _ _ (fun _ _ => rfl) hR
  · intro j o r b ho hr hx
    rcases hob j o ho with hd | ⟨r', hr', _, hc⟩
    · rw [hd] at hx; simp [AObj.occ] at hx
    · rw [hr] at hr'; cases hr'
      rcases hc with hc | ⟨l, o0, _, h1, h2, h3⟩
      · rw [hc] at hx; simp at hx
      · exact h.occ l o0 r b h1 h2 (h3 ▸ hx)
  · intro j j' o o' r r' b ho hr ho' hr' hx hx'
    have ne : o.2 ≠ .dead := fun e => by rw [e] at hx; simp [AObj.occ] at hx
    have ne' : o'.2 ≠ .dead := fun e => by rw [e] at hx'; simp [AObj.occ] at hx'
    rcases hob j o ho with hd | ⟨r1, hr1, _, hc⟩
    · exact absurd hd ne
    rcases hob j' o' ho' with hd | ⟨r2, hr2, _, hc'⟩
    · exact absurd hd ne'
    rw [hr] at hr1; cases hr1
    rw [hr'] at hr2; cases hr2
    rcases hc with hc | ⟨l, o0, g1, g2, g3, g4⟩
    · rw [hc] at hx; simp at hx
    rcases hc' with hc' | ⟨l', o0', g1', g2', g3', g4'⟩
    · rw [hc'] at hx'; simp at hx'
    have := h.apart l l' o0 o0' r r' b g2 g3 g2' g3' (g4 ▸ hx) (g4' ▸ hx')
    subst this
    exact hinj j j' l o o' ho ho' ne ne' g1 g1'
  · have q := h.frs f hf
    obtain ⟨k1, k2⟩ := hfr f hf
    refine ⟨?_, q.tsize, fun i x hx => TV.R_mono mv _ _ (k2 i x hx _ (q.tm i x hx))⟩
    obtain ⟨bs, e, hb⟩ := q.defers
    exact ⟨bs, e, hb.imp fun l hl b ⟨r, e1, e2, e3⟩ => ⟨r, by rw [(k1 l hl).2]; exact e1, e2, (k1 l hl).1⟩⟩
end
end Go.Proofs.AM
end

section
namespace Go.Proofs.AM
open Go Go.RowKit

def recOf (β : List Bl) (k : K) : Option Nat → Option Bl
  | some l => β[l]?
  | none => some ⟨0, 0, k.size, 0, 0, false, none, []⟩

section
variable {C : Cx} {s : AS} {β β' : List Bl} {a : Act} {w : World}

theorem decV_some {h : Heap} {T : TypeId} {k : K} {fr : Bool} {x : AV} {xs : List k.den} {l : Option Nat} (e : decV h T k fr x = some (xs, l)) :
    (x = .nilsl ∧ xs = [] ∧ l = none) ∨ ∃ m f, x = .vf m ∧ l = some m ∧ hat h m = .vec T k xs f ∧ (fr = true → f = true) := by
  unfold decV at e
  split at e
  · simp only [Option.some.injEq, Prod.mk.injEq] at e
    exact .inl ⟨rfl, e.1.symm, e.2.symm⟩
  · rename_i m
    split at e
    · rename_i T' k' xs' f ho
      split at e
      · rename_i hc
        split at e
        · rename_i hk
          subst hk
          simp only [Option.some.injEq, Prod.mk.injEq] at e
          obtain ⟨rfl, rfl⟩ := e
          obtain ⟨rfl, hf⟩ := hc
          exact .inr ⟨m, f, rfl, rfl, ho, fun hfr => by simpa [hfr] using hf⟩
        · simp at e
      · simp at e
    · simp at e
  · simp at e

theorem decH_some {h : Heap} {T T' : TypeId} {kh ki : K} {x : AV} {xs : List (kh.den × List ki.den)} {l : Option Nat} (e : decH h T T' kh ki x = some (xs, l)) :
    (x = .nilsl ∧ xs = [] ∧ l = none ∧ kh.flat = true ∧ ki.flat = true) ∨ ∃ nm n sz p, x = .hv nm n sz ∧ l = some p ∧ hpool h nm = some p ∧ hat h p = .dvec T T' kh ki xs none := by
  unfold decH at e
  split at e
  · split at e
    · rename_i hf
      simp only [Option.some.injEq, Prod.mk.injEq] at e
      exact .inl ⟨rfl, e.1.symm, e.2.symm, by simpa using hf⟩
    · simp at e
  · rename_i nm n sz
    split at e
    rotate_left
    · simp at e
    rename_i p hp
    split at e
    rotate_left
    · simp at e
    rename_i T1 T1' kh1 ki1 xs1 ho
    split at e
    rotate_left
    · simp at e
    rename_i hT
    obtain ⟨rfl, rfl⟩ := hT
    split at e
    rotate_left
    · simp at e
    rename_i h1
    subst h1
    split at e
    rotate_left
    · simp at e
    rename_i h2
    subst h2
    simp only [Option.some.injEq, Prod.mk.injEq] at e
    obtain ⟨rfl, rfl⟩ := e
    exact .inr ⟨nm, n, sz, p, rfl, rfl, hp, ho⟩
  · simp at e

theorem decS_enc (h : Rel C s β a w) {sk : SK} {t : TV} {v : Value} (ht : t.R w (C.N s.heap β w) (C.fresh s.heap β w) β v) {x : sk.kind.den} {l : Option Nat} (e : decS s.heap sk t = some (x, l)) (m : Nat)
    (hm : sk.owns = true → β'[m]? = recOf β sk.rk l) (hms : ∀ l ∈ sk.ms, β'[l]? = β[l]?) : (encS m sk x).R w (C.N s.heap β w) (C.fresh s.heap β w) β' v := by
  cases sk with
  | d agg k fr =>
    simp only [decS] at e
    split at e
    rotate_left
    · simp at e
    rename_i x' f hk
    split at e
    rotate_left
    · simp at e
    rename_i hf
    simp only [Option.some.injEq, Prod.mk.injEq] at e
    obtain ⟨rfl, _⟩ := e
    have hfr : fr = true → f = true := fun hh => by simpa [hh] using hf
    split at hk
    · rename_i cs
      obtain ⟨vs, rfl, hc⟩ := ht
      have hr := of_sound h hc hk
      have hr' : k.rd w (if fr = true then C.fresh s.heap β w else C.N s.heap β w) x' vs := K.rd_mono (fun _ _ => rfl) (fun b hb => by
        cases f
        · have : fr = false := by cases fr; rfl; exact absurd (hfr rfl) (by simp)
          subst this; exact hb
        · cases fr
          · exact Cx.fresh_N hb
          · exact hb) _ _ _ hr
      show TV.R w _ _ β' (if (true && k.wide) = true then TV.dat k x' fr else (shapeTV true (K.cells fr k x')).getD (.one .junk)) _
      split
      · exact TV.dat_R.2 ⟨vs, rfl, hr'⟩
      · exact ⟨vs, rfl, K.cells_R fr k _ _ hr'⟩
    · rename_i y
      have hr := of_sound h (l := [y]) (vs := [v]) ⟨ht, trivial⟩ hk
      have hr' : k.rd w (if fr = true then C.fresh s.heap β w else C.N s.heap β w) x' [v] := K.rd_mono (fun _ _ => rfl) (fun b hb => by
        cases f
        · have : fr = false := by cases fr; rfl; exact absurd (hfr rfl) (by simp)
          subst this; exact hb
        · cases fr
          · exact Cx.fresh_N hb
          · exact hb) _ _ _ hr
      have hc := K.cells_R (N := C.N s.heap β w) (Nf := C.fresh s.heap β w) (β := β') fr k _ _ hr'
      show TV.R w _ _ β' ((shapeTV false (K.cells fr k x')).getD (.one .junk)) v
      generalize K.cells fr k x' = cc at hc ⊢
      match cc, hc with
      | [c], hc => exact hc.1
    · rename_i q y fr0
      split at hk
      rotate_left
      · simp at hk
      rename_i hq
      subst hq
      simp only [Option.some.injEq, Prod.mk.injEq] at hk
      obtain ⟨rfl, hfl⟩ := hk
      obtain ⟨vs, hv, hr⟩ := TV.dat_R.1 ht
      subst hv
      have hr' : q.rd w (if fr = true then C.fresh s.heap β w else C.N s.heap β w) y vs := by
        cases hqf : q.flat with
        | true => exact K.rd_flat _ _ _ hqf hr
        | false =>
          rw [hqf, Bool.or_false] at hfl
          subst hfl
          exact K.rd_mono (fun _ _ => rfl) (fun b hb => by
            cases fr0
            · have : fr = false := by cases fr; rfl; exact absurd (hfr rfl) (by simp)
              subst this; exact hb
            · cases fr
              · exact Cx.fresh_N hb
              · exact hb) _ _ _ hr
      show TV.R w _ _ β' (if (true && q.wide) = true then TV.dat q y fr else (shapeTV true (K.cells fr q y)).getD (.one .junk)) _
      split
      · exact TV.dat_R.2 ⟨vs, rfl, hr'⟩
      · exact ⟨vs, rfl, K.cells_R fr q _ _ hr'⟩
    · simp at hk
  | v T k fr =>
    simp only [decS] at e
    split at e
    · rename_i y
      have hm : β'[m]? = recOf β k l := hm rfl
      rcases decV_some e with ⟨rfl, rfl, rfl⟩ | ⟨l', f, rfl, rfl, ho, _⟩
      · have ht : v = .slice none 0 0 := ht
        subst ht
        exact ⟨⟨0, 0, k.size, 0, 0, false, none, []⟩, none, 0, hm, rfl, Nat.le_refl _, .inr ⟨rfl, rfl⟩⟩
      · obtain ⟨r, A, c, hr, e1, e2, e3⟩ := ht
        exact ⟨r, A, c, by rw [hm]; exact hr, e1, e2, e3⟩
    · simp at e
  | np =>
    simp only [decS] at e
    split at e
    · exact ht
    · simp at e
  | j => trivial
  | m l' =>
    simp only [decS] at e
    split at e
    · rename_i l2
      split at e
      · rename_i hl
        subst hl
        obtain ⟨r, hr, ev⟩ := ht
        exact ⟨r, by rw [hms l2 (by simp [SK.ms])]; exact hr, ev⟩
      · simp at e
    · simp at e
  | h T T' kh ki =>
    simp only [decS] at e
    split at e
    · rename_i y
      have hm : β'[m]? = recOf β (.pair kh (.sl ki)) l := hm rfl
      rcases decH_some e with ⟨rfl, rfl, rfl, _, _⟩ | ⟨nm, n, sz, p, rfl, rfl, hpl, hob⟩
      · have ht : v = .slice none 0 0 := ht
        subst ht
        exact ⟨⟨0, 0, kh.size + 1, 0, 0, false, none, []⟩, none, 0, hm, rfl, rfl, rfl, Nat.le_refl _, .inr ⟨rfl, rfl⟩⟩
      · obtain ⟨r, A, c, hr, hn, hz, e1, e2, e3⟩ := ht
        obtain ⟨f, r0, rp, T1, T1', kh1, ki1, xs1, hole1, k1, k2, k3, k4, k5, k6, k7, k8, k9, k10, kR⟩ := h.pool hpl
        rw [hob] at k1; cases k1
        rw [hr] at k3; cases k3
        obtain ⟨q1, q2, _⟩ := kR
        have hxn : n = List.length x := by omega
        subst hxn
        refine ⟨rp, A, c, by rw [hm]; exact k4, q1, q2, e1, e2, ?_⟩
        unfold Bl.slice Bl.addr at e3 ⊢
        rw [k5, k6, k7, k9, k10]
        exact e3
    · simp at e

theorem decS_obj (h : Rel C s β a w) {T : TypeId} {k : K} {fr : Bool} {t : TV} {x : List k.den} {l : Option Nat} (e : decS s.heap (.v T k fr) t = some (x, l)) {m : Nat} {src : Nat → Option Nat} (hsrc : src m = l)
    (hm : β'[m]? = recOf β k l) (hd : Bool) : ObjOK C s β β' w src m (hd, .vec T k x fr) := by
  simp only [decS] at e
  split at e
  · rcases decV_some e with ⟨rfl, rfl, rfl⟩ | ⟨l', f, rfl, rfl, ho, hf⟩
    · exact .inr ⟨_, hm, ⟨rfl, rfl, Nat.le_refl _, rfl⟩, .inl rfl⟩
    · obtain ⟨ff, r, h1, h2, g1, g2, g3, g4⟩ := h.obj ho (by simp)
      refine .inr ⟨r, by rw [hm]; exact h2, ⟨g1, g2, g3, ?_⟩, .inr ⟨l', _, hsrc, h1, h2, rfl⟩⟩
      by_cases hreal : r.real = true
      · simp only [hreal, if_true] at g4 ⊢
        obtain ⟨pre, mid, post, hh, hp, hrow, hcap⟩ := g4
        refine ⟨pre, mid, post, hh, hp, rows_weak (fun _ _ => rfl) (fun b hb => ?_) hrow, hcap⟩
        exact fl_weak hb hf
      · simp only [hreal] at g4 ⊢
        exact g4
  · simp at e

theorem decS_objH (h : Rel C s β a w) {T T' : TypeId} {kh ki : K} {t : TV} {x : List (kh.den × List ki.den)} {l : Option Nat} (e : decS s.heap (.h T T' kh ki) t = some (x, l)) {m : Nat} {src : Nat → Option Nat} (hsrc : src m = l)
    (hm : β'[m]? = recOf β (.pair kh (.sl ki)) l) (hd : Bool) : ObjOK C s β β' w src m (hd, .dvec T T' kh ki x none) := by
  simp only [decS] at e
  split at e
  · rcases decH_some e with ⟨rfl, rfl, rfl, f1, f2⟩ | ⟨nm, n, sz, p, rfl, rfl, hpl, hob⟩
    · exact .inr ⟨_, hm, ⟨rfl, rfl, Nat.le_refl _, f1, f2, by simp [Bl.deep], trivial, rfl⟩, .inl (by simp [AObj.occ, Bl.deep])⟩
    · obtain ⟨f, r, h1, h2, hR⟩ := h.obj hob (by simp)
      exact .inr ⟨r, by rw [hm]; exact h2, hR, .inr ⟨p, _, hsrc, h1, h2, rfl⟩⟩
  · simp at e

def AllMarks (C : Cx) (s : AS) (l : Nat) : Prop := l ∈ s.marks ∨ ∃ f ∈ C.frs, l ∈ f.marks

theorem Rel.mark_all (h : Rel C s β a w) {l : Nat} (hl : AllMarks C s l) : s.heap[l]? = some (true, .mark) := by
  rcases hl with hl | ⟨f, hf, hl⟩
  · exact h.mark_at hl
  · obtain ⟨bs, _, hb⟩ := (h.frs f hf).defers
    obtain ⟨b, r, _, _, e⟩ := hb.left l hl
    exact e

structure Inv (C : Cx) (s : AS) (β β' : List Bl) (a : Act) (w : World) (src : Nat → Option Nat) (th : List TV × Heap) : Prop where
  it : ∀ (i : Nat) (x : TV), th.1[i]? = some x → x.R w (C.N s.heap β w) (C.fresh s.heap β w) β' (a.tmps.getD i undef)
  io : ∀ (j : Nat) (o : Bool × AObj), th.2[j]? = some o → ObjOK C s β β' w src j o
  im : ∀ l, AllMarks C s l → th.2[l]? = some (true, AObj.mark)
  tl : th.1.length = s.tmps.length

theorem Inv.setSlot {src : Nat → Option Nat} {th : List TV × Heap} (I : Inv C s β β' a w src th) (i : Nat) {x : TV} (hx : x.R w (C.N s.heap β w) (C.fresh s.heap β w) β' (a.tmps.getD i undef)) : Inv C s β β' a w src (th.1.set i x, th.2) := by
  refine ⟨fun j y hy => ?_, I.io, I.im, by simp [I.tl]⟩
  by_cases e : i = j
  · subst e
    by_cases hl : i < th.1.length
    · simp [hl] at hy; subst hy; exact hx
    · simp [hl] at hy
  · simp only [List.getElem?_set_ne e] at hy
    exact I.it j y hy

theorem Inv.pushObj {src : Nat → Option Nat} {th : List TV × Heap} (I : Inv C s β β' a w src th) {os : Heap} (ho : ∀ j o, os[j]? = some o → ObjOK C s β β' w src (th.2.length + j) o) : Inv C s β β' a w src (th.1, th.2 ++ os) := by
  refine ⟨I.it, fun j o hj => ?_, fun l hl => get_app (I.im l hl), I.tl⟩
  by_cases hl : j < th.2.length
  · rw [List.getElem?_append_left hl] at hj; exact I.io j o hj
  · rw [List.getElem?_append_right (by omega)] at hj
    have := ho (j - th.2.length) o hj
    rwa [show th.2.length + (j - th.2.length) = j by omega] at this

theorem Inv.setObj {src : Nat → Option Nat} {th : List TV × Heap} (I : Inv C s β β' a w src th) (l : Nat) {o : Bool × AObj} (ho : ObjOK C s β β' w src l o) (hn : ¬ AllMarks C s l) : Inv C s β β' a w src (th.1, th.2.set l o) := by
  refine ⟨I.it, fun j o' hj => ?_, fun m hm => ?_, I.tl⟩
  · by_cases e : l = j
    · subst e
      by_cases hl : l < th.2.length
      · simp [hl] at hj; subst hj; exact ho
      · simp [hl] at hj
    · simp only [List.getElem?_set_ne e] at hj
      exact I.io j o' hj
  · have e : l ≠ m := fun e => hn (e ▸ hm)
    simp only [List.getElem?_set_ne e]
    exact I.im m hm

def recsOf (β : List Bl) : List Item → List (Option Nat) → List (Option Bl)
  | [], _ => []
  | it :: r, ls => if it.owns = true then (match ls with
      | l :: ls => recOf β it.rk l :: recsOf β r ls
      | [] => recsOf β r []) else recsOf β r ls

theorem encI_len (hd : Bool) (it : Item) (x : it.kind.den) (th : List TV × Heap) (hb : ∀ l j sk, it = .cell l j sk → ∃ T cs, hat th.2 l = .box T cs) : (encI hd it x th).2.length = th.2.length + (if it.owns then 1 else 0) := by
  obtain ⟨t, h⟩ := th
  cases it with
  | slot i sk => cases sk <;> simp [encI, encO, Item.owns, SK.owns]
  | cell l j sk =>
    obtain ⟨T, cs, hb⟩ := hb l j sk rfl
    unfold encI
    simp only [hb]
    cases sk <;> simp [encO, Item.owns, SK.owns]
  | vec l T k fr => simp [encI, Item.owns]
  | map l k v fr => simp [encI, Item.owns]
  | lp l st => simp [encI, Item.owns]
  | pbox i T n => simp [encI, Item.owns]
  | pcell i j m sk =>
    unfold encI
    dsimp only
    split
    · split <;> cases sk <;> simp [encO, Item.owns, SK.owns]
    · cases sk <;> simp [encO, Item.owns, SK.owns]
  | dvec l T T' kh ki => simp [encI, Item.owns]

theorem Inv.item (h : Rel C s β a w) {src : Nat → Option Nat} {th : List TV × Heap} (I : Inv C s β β' a w src th) (hd : Bool) {it : Item} {x : it.kind.den} {l : Option Nat} (e : decI s it = some (x, l))
    (hm : it.owns = true → β'[th.2.length]? = recOf β it.rk l ∧ src th.2.length = l)
    (hsrc : ∀ l j sk, it = .cell l j sk → src l = some l ∧ β'[l]? = β[l]?) (hsrc' : ∀ l ∈ wholeOf [it], src l = some l ∧ β'[l]? = β[l]?) (hms : ∀ l ∈ it.ms, β'[l]? = β[l]?) :
    Inv C s β β' a w src (encI hd it x th) := by
  obtain ⟨t, hh⟩ := th
  have newobj : ∀ (sk : SK) (tv : TV) (y : sk.kind.den), decS s.heap sk tv = some (y, l) → (sk.owns = true → β'[hh.length]? = recOf β sk.rk l ∧ src hh.length = l) →
      ∀ j o, (encO hd sk y)[j]? = some o → ObjOK C s β β' w src (hh.length + j) o := by
    intro sk tv y hy hsk j o ho
    cases sk with
    | d agg k fr => simp [encO] at ho
    | np => simp [encO] at ho
    | j => simp [encO] at ho
    | m _ => simp [encO] at ho
    | v T k fr =>
      obtain ⟨h1, h2⟩ := hsk rfl
      cases j with
      | zero => simp [encO] at ho; subst ho; exact decS_obj h hy h2 h1 _
      | succ j => simp [encO] at ho
    | h T T' kh ki =>
      obtain ⟨h1, h2⟩ := hsk rfl
      cases j with
      | zero => simp [encO] at ho; subst ho; exact decS_objH h hy h2 h1 _
      | succ j => simp [encO] at ho
  cases it with
  | slot i sk =>
    simp only [decI] at e
    split at e
    rotate_left
    · simp at e
    rename_i tv htv
    have hsk : sk.owns = true → β'[hh.length]? = recOf β sk.rk l ∧ src hh.length = l := hm
    have h1 := (I.pushObj (newobj sk tv x e hsk)).setSlot i (x := encS hh.length sk x) (decS_enc h (h.tm i tv htv) e _ (fun e => (hsk e).1) hms)
    exact h1
  | cell m j sk =>
    simp only [decI] at e
    split at e
    rotate_left
    · simp at e
    rename_i T0 cs0 hb0
    split at e
    rotate_left
    · simp at e
    rename_i c hc
    have hsk : sk.owns = true → β'[hh.length]? = recOf β sk.rk l ∧ src hh.length = l := hm
    unfold encI
    dsimp only
    split
    rotate_left
    · exact I
    rename_i T cs hb
    obtain ⟨f0, r0, g1, g2, vs0, g3, g4, g5⟩ := h.obj hb0 (by simp)
    obtain ⟨v, hv, hcv⟩ := g5.get hc
    have hr := decS_enc h (t := .one c) hcv e hh.length (fun e => (hsk e).1) hms
    obtain ⟨f1, hf1⟩ := hat_eq hb (by simp)
    obtain ⟨s1, s2⟩ := hsrc m j sk rfl
    have hob := I.io m _ hf1
    rcases hob with hd' | ⟨r, k1, ⟨vs, k2, k3, k4⟩, k5⟩
    · simp at hd'
    rw [s2, g2] at k1
    cases k1
    rw [g3] at k2
    have hvs : vs = vs0 := by
      simp only [Option.some.injEq, Obj.cells.injEq] at k2
      have := congrArg Array.toList k2.1
      simpa using this.symm
    subst hvs
    have hT : T0 = T := by simp only [Option.some.injEq, Obj.cells.injEq] at k2; exact k2.2.1
    subst hT
    have hset : ObjOK C s β β' w src m (!hd, .box T0 (cs.set j (match encS hh.length sk x with | .one a => a | _ => .junk))) := by
      refine .inr ⟨r0, by rw [s2]; exact g2, ⟨vs.set j v, ?_, k3, k4.set j ?_⟩, .inr ⟨m, _, s1, g1, g2, rfl⟩⟩
      · rw [g3]
        have hj := (List.getElem?_eq_some_iff.1 hv)
        congr 2
        rw [← hj.2]; simp
      · generalize encS hh.length sk x = ee at hr
        cases ee with
        | one a => exact hr
        | agg _ => trivial
        | tup _ => trivial
        | dat _ _ _ => trivial
    have h1 := (I.setObj m hset (fun hm => by have := h.mark_all hm; rw [g1] at this; simp at this))
    have h2 := h1.pushObj (os := encO hd sk x) (fun j' o ho => by
      have := newobj sk (.one c) x e hsk j' o ho
      simpa using this)
    exact h2
  | vec m T k fr =>
    simp only [decI] at e
    split at e
    rotate_left
    · simp at e
    rename_i T' k' xs' f ho
    split at e
    rotate_left
    · simp at e
    rename_i hc
    split at e
    rotate_left
    · simp at e
    rename_i hk
    subst hk
    simp only [Option.some.injEq, Prod.mk.injEq] at e
    obtain ⟨rfl, rfl⟩ := e
    obtain ⟨rfl, hf⟩ := hc
    obtain ⟨f0, r, g1, g2, g3, g4, g5, g6⟩ := h.obj ho (by simp)
    obtain ⟨s1, s2⟩ := hsrc' m (by simp [wholeOf])
    refine I.setObj m ?_ (fun hm => by have := h.mark_all hm; rw [g1] at this; simp at this)
    refine .inr ⟨r, by rw [s2]; exact g2, ⟨g3, g4, g5, ?_⟩, .inr ⟨m, _, s1, g1, g2, rfl⟩⟩
    by_cases hreal : r.real = true
    · simp only [hreal, if_true] at g6 ⊢
      obtain ⟨pre, mid, post, hh, hp, hrow, hcap⟩ := g6
      refine ⟨pre, mid, post, hh, hp, rows_weak (fun _ _ => rfl) (fun b hb => ?_) hrow, hcap⟩
      exact fl_weak hb (fun hfr => by simpa [hfr] using hf)
    · simp only [hreal] at g6 ⊢
      exact g6
  | map m k v fr =>
    simp only [decI] at e
    split at e
    rotate_left
    · simp at e
    rename_i k' v' es' f ho
    split at e
    rotate_left
    · simp at e
    rename_i hf
    split at e
    rotate_left
    · simp at e
    rename_i hk
    subst hk
    split at e
    rotate_left
    · simp at e
    rename_i hk
    subst hk
    simp only [Option.some.injEq, Prod.mk.injEq] at e
    obtain ⟨rfl, rfl⟩ := e
    obtain ⟨f0, r, g1, g2, l0, ck, g3, g4, g5⟩ := h.obj ho (by simp)
    obtain ⟨s1, s2⟩ := hsrc' m (by simp [wholeOf])
    refine I.setObj m ?_ (fun hm => by have := h.mark_all hm; rw [g1] at this; simp at this)
    refine .inr ⟨r, by rw [s2]; exact g2, ⟨l0, ck, g3, g4, g5.mono fun p q hp => entR_mono (fun _ _ => rfl) (fun b hb => fl_weak hb (fun hfr => by simpa [hfr] using hf)) hp⟩, .inr ⟨m, _, s1, g1, g2, rfl⟩⟩
  | lp m st =>
    simp only [decI] at e
    split at e
    rotate_left
    · simp at e
    rename_i st' ho
    split at e
    rotate_left
    · simp at e
    rename_i hs
    subst hs
    obtain ⟨f0, r, g1, g2, rc, g3, g4⟩ := h.obj ho (by simp)
    obtain ⟨s1, s2⟩ := hsrc' m (by simp [wholeOf])
    refine I.setObj m ?_ (fun hm => by have := h.mark_all hm; rw [g1] at this; simp at this)
    exact .inr ⟨r, by rw [s2]; exact g2, ⟨rc, g3, g4⟩, .inr ⟨m, _, s1, g1, g2, rfl⟩⟩
  | dvec m T T' kh ki =>
    simp only [decI] at e
    split at e
    rotate_left
    · simp at e
    rename_i T1 T1' kh1 ki1 xs1 ho
    split at e
    rotate_left
    · simp at e
    rename_i hT
    obtain ⟨rfl, rfl⟩ := hT
    split at e
    rotate_left
    · simp at e
    rename_i h1
    subst h1
    split at e
    rotate_left
    · simp at e
    rename_i h2
    subst h2
    simp only [Option.some.injEq, Prod.mk.injEq] at e
    obtain ⟨rfl, rfl⟩ := e
    obtain ⟨f0, r, g1, g2, hR⟩ := h.obj ho (by simp)
    obtain ⟨s1, s2⟩ := hsrc' m (by simp [wholeOf])
    refine I.setObj m ?_ (fun hm => by have := h.mark_all hm; rw [g1] at this; simp at this)
    exact .inr ⟨r, by rw [s2]; exact g2, hR, .inr ⟨m, _, s1, g1, g2, rfl⟩⟩
  | pbox i T n =>
    simp only [decI] at e
    split at e
    rotate_left
    · simp at e
    rename_i l0 htv
    split at e
    rotate_left
    · simp at e
    rename_i T0 cs0 hb0
    split at e
    rotate_left
    · simp at e
    rename_i hc
    obtain ⟨rfl, hn⟩ := hc
    simp only [Option.some.injEq, Prod.mk.injEq] at e
    obtain ⟨_, rfl⟩ := e
    obtain ⟨h1, h2⟩ := hm rfl
    have h1 : β'[hh.length]? = β[l0]? := h1
    have h2 : src hh.length = some l0 := h2
    obtain ⟨f0, r0, g1, g2, vs0, g3, g4, g5⟩ := h.obj hb0 (by simp)
    have hlen := All2.len g5
    have key : ∀ (n : Nat) (vs : List Value), n = vs.length → All2 (AV.R w (C.N s.heap β w) (C.fresh s.heap β w) β') (List.replicate n AV.junk) vs := by
      intro n
      induction n with
      | zero => intro vs hh; cases vs <;> simp at hh; trivial
      | succ n ih => intro vs hh; cases vs with
        | nil => simp at hh
        | cons v vs => exact ⟨trivial, ih vs (by simpa using hh)⟩
    have hobj : ∀ j o, ([(!hd, AObj.box T0 (List.replicate n .junk))] : Heap)[j]? = some o → ObjOK C s β β' w src (hh.length + j) o := by
      intro j o ho
      cases j with
      | zero =>
        simp at ho; subst ho
        exact .inr ⟨r0, by rw [Nat.add_zero, h1]; exact g2, ⟨vs0, g3, g4, key n vs0 (by omega)⟩, .inr ⟨l0, _, h2, g1, g2, rfl⟩⟩
      | succ j => simp at ho
    obtain ⟨ra, ha1, ha2⟩ := h.tm i _ htv
    exact (I.pushObj hobj).setSlot i (x := .one (.ptr hh.length 0)) ⟨ra, by rw [h1]; exact ha1, ha2⟩
  | pcell i j m sk =>
    simp only [decI] at e
    split at e
    rotate_left
    · simp at e
    rename_i l0 htv
    split at e
    rotate_left
    · simp at e
    rename_i T0 cs0 hb0
    split at e
    rotate_left
    · simp at e
    rename_i c hc
    have hsk : sk.owns = true → β'[hh.length]? = recOf β sk.rk l ∧ src hh.length = l := hm
    unfold encI
    dsimp only
    split
    rotate_left
    · exact I.pushObj (newobj sk (.one c) x e hsk)
    rename_i m' T cs ht hb
    split
    rotate_left
    · exact I.pushObj (newobj sk (.one c) x e hsk)
    rename_i hmm
    subst hmm
    obtain ⟨f0, r0, g1, g2, vs0, g3, g4, g5⟩ := h.obj hb0 (by simp)
    obtain ⟨v, hv, hcv⟩ := g5.get hc
    have hr := decS_enc h (t := .one c) hcv e hh.length (fun e => (hsk e).1) hms
    obtain ⟨f1, hf1⟩ := hat_eq hb (by simp)
    obtain ⟨ra, ha1, ha2⟩ := h.tm i _ htv
    obtain ⟨rb, hb1, hb2⟩ := I.it i _ ht
    rw [g2] at ha1
    cases ha1
    rcases I.io m' _ hf1 with hd' | ⟨r, k1, ⟨vs, k2, k3, k4⟩, k5⟩
    · simp at hd'
    rw [hb1] at k1
    cases k1
    have hblk : r0.blk = rb.blk := by
      rw [ha2] at hb2
      simp only [Bl.addr, Value.pointer.injEq, Option.some.injEq, Addr.mk.injEq] at hb2
      exact hb2.1
    rw [← hblk, g3] at k2
    have hvs : vs = vs0 := by
      simp only [Option.some.injEq, Obj.cells.injEq] at k2
      have := congrArg Array.toList k2.1
      simpa using this.symm
    subst hvs
    have hT : T0 = T := by simp only [Option.some.injEq, Obj.cells.injEq] at k2; exact k2.2.1
    subst hT
    have hset : ObjOK C s β β' w src m' (!hd, .box T0 (cs.set j (match encS hh.length sk x with | .one a => a | _ => .junk))) := by
      refine .inr ⟨rb, hb1, ⟨vs.set j v, ?_, k3, k4.set j ?_⟩, k5⟩
      · rw [← hblk, g3]
        have hj := (List.getElem?_eq_some_iff.1 hv)
        congr 2
        rw [← hj.2]; simp
      · generalize encS hh.length sk x = ee at hr
        cases ee with
        | one a => exact hr
        | agg _ => trivial
        | tup _ => trivial
        | dat _ _ _ => trivial
    have h1 := (I.setObj m' hset (fun hm => by have := I.im m' hm; have := this.symm.trans hf1; simp at this))
    have h2 := h1.pushObj (os := encO hd sk x) (fun j' o ho => by
      have := newobj sk (.one c) x e hsk j' o ho
      simpa using this)
    exact h2

theorem recsOf_cons {it : Item} {r : List Item} {l : Option Nat} {ls : List (Option Nat)} (h : it.owns = true) : recsOf β (it :: r) (l :: ls) = recOf β it.rk l :: recsOf β r ls := by
  simp [recsOf, h]

theorem recsOf_skip {it : Item} {r : List Item} {ls : List (Option Nat)} (h : it.owns = false) : recsOf β (it :: r) ls = recsOf β r ls := by
  simp [recsOf, h]

theorem Inv.items (h : Rel C s β a w) {src : Nat → Option Nat} (hd : Bool) : ∀ (la : List Item) (x : KU (LA.kinds la)) (ls : List (Option Nat)) (th : List TV × Heap), decL s la = some (x, ls) → Inv C s β β' a w src th →
    (∀ i l, ls[i]? = some l → src (th.2.length + i) = l) →
    (∀ i o, (recsOf β la ls)[i]? = some o → β'[th.2.length + i]? = o) →
    (∀ l ∈ boxesOf la ++ wholeOf la, src l = some l ∧ β'[l]? = β[l]? ∧ l < th.2.length) →
    (∀ l ∈ boxesOf la, ∃ T cs, hat th.2 l = .box T cs) → (∀ l ∈ boxesOf la, l ∉ vecsOf la) → (∀ l ∈ msOf la, β'[l]? = β[l]?) →
    Inv C s β β' a w src (encL hd la x th) ∧ (encL hd la x th).2.length = th.2.length + ls.length
  | [], x, ls, th, e, I, _, _, _, _, _, _ => by
    simp [decL] at e
    obtain ⟨_, rfl⟩ := e
    exact ⟨I, rfl⟩
  | it :: r, x, ls, th, e, I, h1, h2, h3, h4, h5, h6 => by
    unfold decL at e
    split at e
    rotate_left
    · simp at e
    rename_i x1 l y ls' e1 e2
    simp only [Option.some.injEq, Prod.mk.injEq] at e
    obtain ⟨rfl, rfl⟩ := e
    have hown : it.owns = true → β'[th.2.length]? = recOf β it.rk l ∧ src th.2.length = l := by
      intro ho
      rw [if_pos ho] at h1 h2
      rw [recsOf_cons ho] at h2
      exact ⟨by simpa using h2 0 _ rfl, by simpa using h1 0 l rfl⟩
    have I2 := I.item h hd e1 hown (fun m j sk e => by subst e; have := h3 m (by simp [boxesOf]); exact ⟨this.1, this.2.1⟩) (fun m hm => by have := h3 m (by refine List.mem_append.2 (.inr ?_); cases it <;> simp_all [wholeOf]); exact ⟨this.1, this.2.1⟩) (fun m hm => h6 m (by simp [msOf, hm]))
    have hlen := encI_len hd it x1 th (fun m j sk e => by subst e; exact h4 m (by simp [boxesOf]))
    have keep : ∀ m ∈ boxesOf r, ∃ T cs, hat (encI hd it x1 th).2 m = .box T cs := by
      intro m hm
      have hmb : m ∈ boxesOf (it :: r) := by cases it <;> simp [boxesOf, hm]
      obtain ⟨T, cs, hb⟩ := h4 m hmb
      obtain ⟨f, hf⟩ := hat_eq hb (by simp)
      have hml := (List.getElem?_eq_some_iff.1 hf).1
      obtain ⟨t, hh⟩ := th
      cases it with
      | slot i sk =>
        refine ⟨T, cs, ?_⟩
        simp only [encI, hat]
        rw [List.getElem?_append_left hml, hf]
      | cell m' j sk =>
        obtain ⟨T', cs', hb'⟩ : ∃ T' cs', hat hh m' = .box T' cs' := h4 m' (by simp [boxesOf])
        simp only [encI, hb']
        by_cases em : m' = m
        · subst em
          have e2 : ∀ (x : Bool × AObj) (y : Heap), (hh.set m' x ++ y)[m']? = some x := fun x y => by
            rw [List.getElem?_append_left (by simpa using hml), List.getElem?_set_self hml]
          simp only [hat, e2]
          exact ⟨_, _, rfl⟩
        · refine ⟨T, cs, ?_⟩
          simp only [hat]
          rw [List.getElem?_append_left (by simpa using hml), List.getElem?_set_ne em, hf]
      | vec m' T' k fr =>
        have hne : m' ≠ m := fun e => by subst e; exact h5 m' hmb (by simp [vecsOf])
        refine ⟨T, cs, ?_⟩
        simp only [encI, hat]
        rw [List.getElem?_set_ne hne, hf]
      | map m' k v fr =>
        have hne : m' ≠ m := fun e => by subst e; exact h5 m' hmb (by simp [vecsOf])
        refine ⟨T, cs, ?_⟩
        simp only [encI, hat]
        rw [List.getElem?_set_ne hne, hf]
      | lp m' st =>
        have hne : m' ≠ m := fun e => by subst e; exact h5 m' hmb (by simp [vecsOf])
        refine ⟨T, cs, ?_⟩
        simp only [encI, hat]
        rw [List.getElem?_set_ne hne, hf]
      | dvec m' T1 T1' kh ki =>
        have hne : m' ≠ m := fun e => by subst e; exact h5 m' hmb (by simp [vecsOf])
        refine ⟨T, cs, ?_⟩
        simp only [encI, hat]
        rw [List.getElem?_set_ne hne, hf]
      | pbox i T' n =>
        refine ⟨T, cs, ?_⟩
        simp only [encI, hat]
        rw [List.getElem?_append_left hml, hf]
      | pcell i j m' sk =>
        have hne : m' ≠ m := fun e => by subst e; exact h5 m' hmb (by simp [vecsOf])
        refine ⟨T, cs, ?_⟩
        have e1 : ∀ y : Heap, hat (hh ++ y) m = .box T cs := fun y => by
          simp only [hat]; rw [List.getElem?_append_left hml, hf]
        have e2 : ∀ (x : Bool × AObj) (y : Heap), hat (hh.set m' x ++ y) m = .box T cs := fun x y => by
          simp only [hat]; rw [List.getElem?_append_left (by simpa using hml), List.getElem?_set_ne hne, hf]
        simp only [encI]
        split
        · split
          · exact e2 _ _
          · exact e1 _
        · exact e1 _
    have sub : ∀ m, m ∈ boxesOf r ++ wholeOf r → m ∈ boxesOf (it :: r) ++ wholeOf (it :: r) := by
      intro m hm
      rcases List.mem_append.1 hm with hm | hm
      · refine List.mem_append.2 (.inl ?_); cases it <;> simp [boxesOf, hm]
      · refine List.mem_append.2 (.inr ?_); cases it <;> simp [wholeOf, hm]
    have hb5 : ∀ m ∈ boxesOf r, m ∉ vecsOf r := fun m hm hv => h5 m (by cases it <;> simp [boxesOf, hm]) (by cases it <;> simp [vecsOf, hv])
    cases hoc : it.owns with
    | true =>
      rw [if_pos hoc] at hlen
      rw [if_pos hoc] at h1 h2
      rw [recsOf_cons hoc] at h2
      have := Inv.items h hd r y ls' (encI hd it x1 th) e2 I2 (fun i l hl => by
          have := h1 (i + 1) l (by simpa using hl)
          rwa [hlen, show th.2.length + 1 + i = th.2.length + (i + 1) by omega])
        (fun i o ho => by
          have := h2 (i + 1) o (by simpa using ho)
          rwa [hlen, show th.2.length + 1 + i = th.2.length + (i + 1) by omega])
        (fun m hm => by obtain ⟨q1, q2, q3⟩ := h3 m (sub m hm); exact ⟨q1, q2, by omega⟩) keep hb5 (fun m hm => h6 m (by simp [msOf, hm]))
      refine ⟨this.1, ?_⟩
      show (encL hd r y (encI hd it x1 th)).2.length = _
      rw [this.2, hlen]; simp; omega
    | false =>
      rw [hoc] at h1 h2 hlen
      simp only [Bool.false_eq_true, if_false] at h1 h2 hlen
      rw [recsOf_skip hoc] at h2
      have := Inv.items h hd r y ls' (encI hd it x1 th) e2 I2 (fun i l hl => by
          rw [hlen]; exact h1 i l hl)
        (fun i o ho => by
          rw [hlen]; exact h2 i o ho)
        (fun m hm => by obtain ⟨q1, q2, q3⟩ := h3 m (sub m hm); exact ⟨q1, q2, by omega⟩) keep hb5 (fun m hm => h6 m (by simp [msOf, hm]))
      refine ⟨this.1, ?_⟩
      show (encL hd r y (encI hd it x1 th)).2.length = _
      rw [this.2, hlen]; simp
end
end Go.Proofs.AM
end

section
namespace Go.Proofs.AM
open Go Go.RowKit

theorem junkAll_tm {i : Nat} : ∀ (D : List Nat) (t : List TV), i ∉ D → (junkAll D t)[i]? = t[i]?
  | [], _, _ => rfl
  | d :: D, t, h => by
    show (junkAll D (t.set d (.one .junk)))[i]? = _
    rw [junkAll_tm D _ (fun hh => h (by simp [hh])), List.getElem?_set_ne (fun e => h (by simp [e]))]

theorem junkAll_len : ∀ (D : List Nat) (t : List TV), (junkAll D t).length = t.length
  | [], _ => rfl
  | d :: D, t => by
    show (junkAll D (t.set d (.one .junk))).length = _
    rw [junkAll_len D]; simp

theorem junkAll_in {i : Nat} : ∀ (D : List Nat) (t : List TV), i ∈ D → ∀ x, (junkAll D t)[i]? = some x → x = .one .junk
  | d :: D, t, h, x, hx => by
    have hx : (junkAll D (t.set d (.one .junk)))[i]? = some x := hx
    by_cases hi : i ∈ D
    · exact junkAll_in D _ hi x hx
    · rw [junkAll_tm D _ hi] at hx
      have : i = d := by simpa [hi] using h
      subst this
      rw [List.getElem?_set_self'] at hx
      cases h' : t[i]? <;> simp [h'] at hx
      exact hx.symm

theorem base_get {hd : Bool} {ks bs : List Nat} : ∀ (h : Heap) (n j : Nat), (baseHeapFrom hd ks bs h n)[j]? = (h[j]?).map (fun o => baseObj hd ks bs o (n + j))
  | [], _, _ => rfl
  | o :: h, n, 0 => rfl
  | o :: h, n, j + 1 => by
    show (baseHeapFrom hd ks bs h (n + 1))[j]? = _
    rw [base_get h (n + 1) j]
    simp [Nat.add_assoc, Nat.add_comm 1 j]

theorem base_len {hd : Bool} {ks bs : List Nat} : ∀ (h : Heap) (n : Nat), (baseHeapFrom hd ks bs h n).length = h.length
  | [], _ => rfl
  | o :: h, n => by simp [baseHeapFrom, base_len h]

theorem encI_tm {hd : Bool} {it : Item} {x : it.kind.den} {th : List TV × Heap} {i : Nat} (h : i ∉ slotsOf [it]) : (encI hd it x th).1[i]? = th.1[i]? := by
  obtain ⟨t, hh⟩ := th
  cases it with
  | slot j sk =>
    simp only [encI]
    rw [List.getElem?_set_ne (fun e => h (by simp [slotsOf, e]))]
  | cell l j sk => simp only [encI]; split <;> rfl
  | vec l T k fr => rfl
  | map l k v fr => rfl
  | lp l st => rfl
  | dvec l T T' kh ki => rfl
  | pbox j T n =>
    simp only [encI]
    rw [List.getElem?_set_ne (fun e => h (by simp [slotsOf, e]))]
  | pcell j c m sk => simp only [encI]; split <;> (try split) <;> rfl

theorem encI_tl {hd : Bool} {it : Item} {x : it.kind.den} {th : List TV × Heap} : (encI hd it x th).1.length = th.1.length := by
  obtain ⟨t, hh⟩ := th
  cases it with
  | slot j sk => simp [encI]
  | cell l j sk => simp only [encI]; split <;> rfl
  | vec l T k fr => rfl
  | map l k v fr => rfl
  | lp l st => rfl
  | dvec l T T' kh ki => rfl
  | pbox j T n => simp [encI]
  | pcell j c m sk => simp only [encI]; split <;> (try split) <;> rfl

theorem encI_le {hd : Bool} {it : Item} {x : it.kind.den} {th : List TV × Heap} : th.2.length ≤ (encI hd it x th).2.length := by
  obtain ⟨t, hh⟩ := th
  cases it with
  | slot j sk => simp [encI]
  | cell l j sk => simp only [encI]; split <;> simp
  | vec l T k fr => simp [encI]
  | map l k v fr => simp [encI]
  | lp l st => simp [encI]
  | dvec l T T' kh ki => simp [encI]
  | pbox j T n => simp [encI]
  | pcell j c m sk => simp only [encI]; split <;> (try split) <;> simp

theorem encI_keep {hd : Bool} {it : Item} {x : it.kind.den} {th : List TV × Heap} {l : Nat} (hl : l < th.2.length) (h : l ∉ boxesOf [it] ++ vecsOf [it]) : (encI hd it x th).2[l]? = th.2[l]? := by
  obtain ⟨t, hh⟩ := th
  cases it with
  | slot j sk => simp only [encI]; rw [List.getElem?_append_left hl]
  | cell m j sk =>
    simp only [encI]
    have : m ≠ l := fun e => h (by simp [boxesOf, e])
    split
    · rw [List.getElem?_append_left (by simpa using hl), List.getElem?_set_ne this]
    · rfl
  | vec m T k fr =>
    have : m ≠ l := fun e => h (by simp [vecsOf, e])
    simp only [encI]
    rw [List.getElem?_set_ne this]
  | map m k v fr =>
    have : m ≠ l := fun e => h (by simp [vecsOf, e])
    simp only [encI]
    rw [List.getElem?_set_ne this]
  | lp m st =>
    have : m ≠ l := fun e => h (by simp [vecsOf, e])
    simp only [encI]
    rw [List.getElem?_set_ne this]
  | dvec m T T' kh ki =>
    have : m ≠ l := fun e => h (by simp [vecsOf, e])
    simp only [encI]
    rw [List.getElem?_set_ne this]
  | pbox j T n => simp only [encI]; rw [List.getElem?_append_left hl]
  | pcell j c m sk =>
    have : m ≠ l := fun e => h (by simp [vecsOf, e])
    simp only [encI]
    split
    · split
      · rw [List.getElem?_append_left (by simpa using hl), List.getElem?_set_ne this]
      · rw [List.getElem?_append_left hl]
    · rw [List.getElem?_append_left hl]

theorem encI_flag {it : Item} {x : it.kind.den} {th : List TV × Heap} {l : Nat} {o : AObj} (hl : l < th.2.length) (h : (encI false it x th).2[l]? = some (false, o)) : th.2[l]? = some (false, o) := by
  obtain ⟨t, hh⟩ := th
  cases it with
  | slot j sk => simp only [encI] at h; rwa [List.getElem?_append_left hl] at h
  | cell m j sk =>
    simp only [encI] at h
    split at h
    · rw [List.getElem?_append_left (by simpa using hl)] at h
      by_cases e : m = l
      · subst e; simp [show m < hh.length from hl] at h
      · rwa [List.getElem?_set_ne e] at h
    · exact h
  | vec m T k fr =>
    simp only [encI] at h
    by_cases e : m = l
    · subst e; simp [show m < hh.length from hl] at h
    · rwa [List.getElem?_set_ne e] at h
  | map m k v fr =>
    simp only [encI] at h
    by_cases e : m = l
    · subst e; simp [show m < hh.length from hl] at h
    · rwa [List.getElem?_set_ne e] at h
  | lp m st =>
    simp only [encI] at h
    by_cases e : m = l
    · subst e; simp [show m < hh.length from hl] at h
    · rwa [List.getElem?_set_ne e] at h
  | dvec m T T' kh ki =>
    simp only [encI] at h
    by_cases e : m = l
    · subst e; simp [show m < hh.length from hl] at h
    · rwa [List.getElem?_set_ne e] at h
  | pbox j T n => simp only [encI] at h; rwa [List.getElem?_append_left hl] at h
  | pcell j c m sk =>
    simp only [encI] at h
    split at h
    · split at h
      · rw [List.getElem?_append_left (by simpa using hl)] at h
        by_cases e : m = l
        · subst e; simp [show m < hh.length from hl] at h
        · rwa [List.getElem?_set_ne e] at h
      · rwa [List.getElem?_append_left hl] at h
    · rwa [List.getElem?_append_left hl] at h

theorem slots_sub {it : Item} {r : List Item} {i : Nat} (h : i ∉ slotsOf (it :: r)) : i ∉ slotsOf [it] ∧ i ∉ slotsOf r := by
  cases it <;> simp_all [slotsOf]
theorem boxes_sub {it : Item} {r : List Item} {i : Nat} (h : i ∉ boxesOf (it :: r) ++ vecsOf (it :: r)) : i ∉ boxesOf [it] ++ vecsOf [it] ∧ i ∉ boxesOf r ++ vecsOf r := by
  cases it <;> simp_all [boxesOf, vecsOf]

theorem encL_tm {hd : Bool} {i : Nat} : ∀ (la : List Item) (x : KU (LA.kinds la)) (th : List TV × Heap), i ∉ slotsOf la → (encL hd la x th).1[i]? = th.1[i]?
  | [], _, _, _ => rfl
  | it :: r, x, th, h => by
    exact (encL_tm r x.2 (encI hd it x.1 th) (slots_sub h).2).trans (encI_tm (slots_sub h).1)

theorem encL_tl {hd : Bool} : ∀ (la : List Item) (x : KU (LA.kinds la)) (th : List TV × Heap), (encL hd la x th).1.length = th.1.length
  | [], _, _ => rfl
  | it :: r, x, th => by
    exact (encL_tl r x.2 (encI hd it x.1 th)).trans encI_tl

theorem encL_le {hd : Bool} : ∀ (la : List Item) (x : KU (LA.kinds la)) (th : List TV × Heap), th.2.length ≤ (encL hd la x th).2.length
  | [], _, _ => Nat.le_refl _
  | it :: r, x, th => Nat.le_trans encI_le (encL_le r x.2 (encI hd it x.1 th))

theorem encL_keep {hd : Bool} {l : Nat} : ∀ (la : List Item) (x : KU (LA.kinds la)) (th : List TV × Heap), l < th.2.length → l ∉ boxesOf la ++ vecsOf la → (encL hd la x th).2[l]? = th.2[l]?
  | [], _, _, _, _ => rfl
  | it :: r, x, th, hl, h => by
    exact (encL_keep r x.2 (encI hd it x.1 th) (Nat.lt_of_lt_of_le hl encI_le) (boxes_sub h).2).trans (encI_keep hl (boxes_sub h).1)

theorem encL_flag {l : Nat} {o : AObj} : ∀ (la : List Item) (x : KU (LA.kinds la)) (th : List TV × Heap), l < th.2.length → (encL false la x th).2[l]? = some (false, o) → th.2[l]? = some (false, o)
  | [], _, _, _, h => h
  | it :: r, x, th, hl, h => by
    have h : (encL false r x.2 (encI false it x.1 th)).2[l]? = some (false, o) := h
    exact encI_flag hl (encL_flag r _ _ (Nat.lt_of_lt_of_le hl encI_le) h)

section
variable {C : Cx} {s : AS} {β : List Bl} {a : Act} {w : World}

theorem own_rec (hb : β.length = s.heap.length) {it : Item} {x : it.kind.den} {l : Option Nat} (e : decI s it = some (x, l)) (ho : it.owns = true) : (recOf β it.rk l).isSome = true := by
  have key : ∀ {T : TypeId} {k : K} {fr : Bool} {y : AV} {xs : List k.den}, decV s.heap T k fr y = some (xs, l) → (recOf β k l).isSome = true := by
    intro T k fr y xs e
    rcases decV_some e with ⟨_, _, rfl⟩ | ⟨m, f, _, rfl, hm, _⟩
    · rfl
    · obtain ⟨g, hg⟩ := hat_eq hm (by simp)
      have := (List.getElem?_eq_some_iff.1 hg).1
      simp [recOf, hb, this]
  have keyH : ∀ {T T' : TypeId} {kh ki : K} {y : AV} {xs : List (kh.den × List ki.den)}, decH s.heap T T' kh ki y = some (xs, l) → (recOf β (.pair kh (.sl ki)) l).isSome = true := by
    intro T T' kh ki y xs e
    rcases decH_some e with ⟨_, _, rfl, _⟩ | ⟨nm, n, sz, m, _, rfl, _, hm⟩
    · rfl
    · obtain ⟨g, hg⟩ := hat_eq hm (by simp)
      have := (List.getElem?_eq_some_iff.1 hg).1
      simp [recOf, hb, this]
  have keyS : ∀ {sk : SK} {t : TV} {x : sk.kind.den}, decS s.heap sk t = some (x, l) → sk.owns = true → (recOf β sk.rk l).isSome = true := by
    rintro sk t x e ho
    cases sk with
    | d _ _ _ => simp [SK.owns] at ho
    | np => simp [SK.owns] at ho
    | j => simp [SK.owns] at ho
    | m _ => simp [SK.owns] at ho
    | v T k fr =>
      simp only [decS] at e
      split at e
      · exact key e
      · simp at e
    | h T T' kh ki =>
      simp only [decS] at e
      split at e
      · exact keyH e
      · simp at e
  cases it with
  | slot i sk =>
    simp only [decI] at e
    split at e
    · exact keyS e ho
    · simp at e
  | cell m j sk =>
    simp only [decI] at e
    split at e
    · split at e
      · exact keyS e ho
      · simp at e
    · simp at e
  | vec _ _ _ _ => simp [Item.owns] at ho
  | map _ _ _ _ => simp [Item.owns] at ho
  | lp _ _ => simp [Item.owns] at ho
  | dvec _ _ _ _ _ => simp [Item.owns] at ho
  | pbox i T n =>
    simp only [decI] at e
    split at e
    rotate_left
    · simp at e
    rename_i l0 htv
    split at e
    rotate_left
    · simp at e
    rename_i T0 cs0 hb0
    split at e
    rotate_left
    · simp at e
    simp only [Option.some.injEq, Prod.mk.injEq] at e
    obtain ⟨_, rfl⟩ := e
    obtain ⟨g, hg⟩ := hat_eq hb0 (by simp)
    have := (List.getElem?_eq_some_iff.1 hg).1
    simp [recOf, hb, this]
  | pcell i j m sk =>
    simp only [decI] at e
    split at e
    · split at e
      · split at e
        · exact keyS e ho
        · simp at e
      · simp at e
    · simp at e

theorem recsOf_ok (hb : β.length = s.heap.length) : ∀ (la : List Item) (x : KU (LA.kinds la)) (ls : List (Option Nat)), decL s la = some (x, ls) → (recsOf β la ls).length = ls.length ∧ ∀ o ∈ recsOf β la ls, o.isSome = true
  | [], x, ls, e => by
    simp [decL] at e
    obtain ⟨_, rfl⟩ := e
    simp [recsOf]
  | it :: r, x, ls, e => by
    unfold decL at e
    split at e
    rotate_left
    · simp at e
    rename_i x1 l y ls' e1 e2
    simp only [Option.some.injEq, Prod.mk.injEq] at e
    obtain ⟨rfl, rfl⟩ := e
    have ih := recsOf_ok hb r y ls' e2
    cases hoc : it.owns with
    | true =>
      rw [if_pos rfl, recsOf_cons hoc]
      refine ⟨by simp [ih.1], fun o ho => ?_⟩
      rcases List.mem_cons.1 ho with rfl | ho
      · exact own_rec hb e1 hoc
      · exact ih.2 o ho
    | false =>
      simp only [Bool.false_eq_true, if_false]
      rw [recsOf_skip hoc]
      exact ih

theorem nodupO_inj {l : Nat} : ∀ {ls : List (Option Nat)} {i j : Nat}, nodupO ls = true → ls[i]? = some (some l) → ls[j]? = some (some l) → i = j
  | [], i, j, _, h, _ => by simp at h
  | x :: r, 0, 0, _, _, _ => rfl
  | x :: r, i + 1, 0, hn, hi, hj => by
    simp at hi hj
    subst hj
    simp [nodupO] at hn
    exact absurd (List.mem_of_getElem? hi) hn.1
  | x :: r, 0, j + 1, hn, hi, hj => by
    simp at hi hj
    subst hi
    simp [nodupO] at hn
    exact absurd (List.mem_of_getElem? hj) hn.1
  | x :: r, i + 1, j + 1, hn, hi, hj => by
    have hn' : nodupO r = true := by cases x <;> simp_all [nodupO]
    exact congrArg (· + 1) (nodupO_inj (l := l) (i := i) (j := j) hn' (by simpa using hi) (by simpa using hj))

structure AS.Fine (C : Cx) (s : AS) : Prop where
  tm : ∀ (i : Nat) (t : TV), s.tmps[i]? = some t → t.lt s.heap.length
  ob : ∀ (l : Nat) (o : Bool × AObj), s.heap[l]? = some o → o.2.lt s.heap.length
  mks : ∀ l, AllMarks C s l → s.heap[l]? = some (true, .mark)
  frm : ∀ f ∈ C.frs, ∀ (i : Nat) (t : TV), f.tmps[i]? = some t → t.lt s.heap.length

theorem Rel.fine (h : Rel C s β a w) : s.Fine C where
  tm i t e := by have := TV.R_lt (h.tm i t e); rwa [h.bsize] at this
  ob l o e := by
    have hl := (List.getElem?_eq_some_iff.1 e).1
    have := AObj.R_lt (h.ob l o _ e (List.getElem?_eq_getElem (by rw [h.bsize]; exact hl)))
    rwa [h.bsize] at this
  mks l hl := h.mark_all hl
  frm f hf i t e := by have := TV.R_lt ((h.frs f hf).tm i t e); rwa [h.bsize] at this

structure okP (h0 h : Heap) (D ks : List Nat) (la : List Item) (ls : List (Option Nat)) : Prop where
  sl : ∀ i ∈ slotsOf la, i ∈ D
  bx : ∀ l ∈ boxesOf la, ∃ T cs cs', l < h0.length ∧ hat h0 l = .box T cs ∧ hat h l = .box T cs' ∧ cs.length = cs'.length
  vc : ∀ l ∈ wholeOf la, l < h0.length ∧ (hat h0 l).whole = true
  pc : ∀ l ∈ pcsOf la, h0.length ≤ l
  ow : ∀ l, some l ∈ ls → l ∈ ks ∨ h0.length ≤ l
  nd : nodupO ls = true
  ms : ∀ l ∈ msOf la, l < h0.length
  kk : ∀ l ∈ ks, (hat h0 l).isMark = false ∧ l ∉ boxesOf la ++ vecsOf la

theorem okL_ok {h0 h : Heap} {D ks : List Nat} {la : List Item} {ls : List (Option Nat)} (e : okL h0 h D ks la ls = true) : okP h0 h D ks la ls := by
  simp only [okL, Bool.and_eq_true, List.all_eq_true] at e
  obtain ⟨⟨⟨⟨⟨⟨⟨e1, e2⟩, e3⟩, e7⟩, e4⟩, e5⟩, e8⟩, e6⟩ := e
  refine ⟨fun i hi => by simpa using e1 i hi, fun l hl => ?_, fun l hl => ?_, fun l hl => by simpa using e7 l hl, fun l hl => by simpa using e4 _ hl, e5, fun l hl => by simpa using e8 l hl, fun l hl => by simpa using e6 l hl⟩
  · obtain ⟨q1, q2⟩ := e2 l hl
    split at q2
    · rename_i T cs T' cs' g1 g2
      simp at q2
      obtain ⟨rfl, q2⟩ := q2
      exact ⟨_, _, _, by simpa using q1, g1, g2, q2⟩
    · simp at q2
  · obtain ⟨q1, q2⟩ := e3 l hl
    exact ⟨by simpa using q1, q2⟩

theorem Rel.reenc (h : Rel C s β a w) {s0 : AS} (hf : s0.Fine C) {D ks : List Nat} {la : List Item} {xu : KU (LA.kinds la)} {ls : List (Option Nat)} (e : decL s la = some (xu, ls)) (ok : okL s0.heap s.heap D ks la ls = true)
    (htl : s.tmps.length = s0.tmps.length) (hmk : s.marks = s0.marks) (htm : ∀ i, i ∉ D → s.tmps[i]? = s0.tmps[i]?) (hlen : s0.heap.length ≤ s.heap.length)
    (hun : ∀ (l : Nat) (o : Bool × AObj), s0.heap[l]? = some o → l ∉ ks → l ∉ boxesOf la ++ vecsOf la → ∃ f, s.heap[l]? = some (f, o.2)) (hd : Bool) :
    ∃ β', Rel C (enc hd s0 D ks la (KT.down xu)) β' a w ∧ ∀ β0 δ, β = β0 ++ δ → β0.length = s0.heap.length → ∃ δ', β' = β0 ++ δ' := by
  have ok := okL_ok ok
  obtain ⟨hl1, hl2⟩ := recsOf_ok h.bsize la xu ls e
  generalize hn : s0.heap.length = n0 at *
  have htk : (β.take n0).length = n0 := by simp [h.bsize]; omega
  let src : Nat → Option Nat := fun j => if j < n0 then some j else (ls[j - n0]?).join
  let β' : List Bl := β.take n0 ++ (recsOf β la ls).map (fun o => o.getD ⟨0, 0, 0, 0, 0, false, none, []⟩)
  have hβ : ∀ l, l < n0 → β'[l]? = β[l]? := fun l hl => by
    show (β.take n0 ++ _)[l]? = _
    rw [List.getElem?_append_left (by omega), List.getElem?_take]
    simp [hl]
  have hβ2 : ∀ (i : Nat) (o : Option Bl), (recsOf β la ls)[i]? = some o → β'[n0 + i]? = o := fun i o ho => by
    show (β.take n0 ++ _)[n0 + i]? = _
    rw [List.getElem?_append_right (by omega), htk, Nat.add_sub_cancel_left, List.getElem?_map, ho]
    have := hl2 o (List.mem_of_getElem? ho)
    cases o with
    | none => simp at this
    | some r => rfl
  have hβ3 : β'.length = n0 + ls.length := by
    show (β.take n0 ++ _).length = _
    rw [List.length_append, htk, List.length_map, hl1]
  have hnm : ∀ l, AllMarks C s0 l → l ∉ ks ∧ l ∉ boxesOf la ++ vecsOf la := by
    intro l hl
    have hm := hf.mks l hl
    refine ⟨fun hk => ?_, fun hb => ?_⟩
    · have := (ok.kk l hk).1; simp [hat, hm, AObj.isMark] at this
    · rcases List.mem_append.1 hb with hb | hb
      · obtain ⟨T, cs, _, _, hx, _⟩ := ok.bx l hb; simp [hat, hm] at hx
      · rcases vecs_cases hb with hb | hb
        · obtain ⟨_, hx⟩ := ok.vc l hb; simp [hat, hm, AObj.whole] at hx
        · have := ok.pc l hb
          have := (List.getElem?_eq_some_iff.1 hm).1
          omega
  have hAM : ∀ l, AllMarks C s l ↔ AllMarks C s0 l := fun l => by unfold AllMarks; rw [hmk]
  have hsrc0 : ∀ l, l < n0 → src l = some l := fun l hl => if_pos hl
  have I0 : Inv C s β β' a w src (junkAll D s0.tmps, baseHeapFrom hd ks (boxesOf la ++ vecsOf la) s0.heap 0) := by
    refine ⟨fun i x hx => ?_, fun j o hj => ?_, fun l hl => ?_, by rw [htl]; exact junkAll_len _ _⟩
    · by_cases hi : i ∈ D
      · rw [junkAll_in D _ hi x hx]; trivial
      · have hx : (junkAll D s0.tmps)[i]? = some x := hx
        rw [junkAll_tm D _ hi] at hx
        exact TV.R_pre hβ (by have := hf.tm i x hx; rwa [hn] at this) (h.tm i x (by rw [htm i hi]; exact hx))
    · have hj : (baseHeapFrom hd ks (boxesOf la ++ vecsOf la) s0.heap 0)[j]? = some o := hj
      rw [base_get] at hj
      cases h0 : s0.heap[j]? with
      | none => simp [h0] at hj
      | some p =>
        simp only [h0, Option.map_some, Option.some.injEq, Nat.zero_add] at hj
        have hjl : j < n0 := by have := (List.getElem?_eq_some_iff.1 h0).1; omega
        unfold baseObj at hj
        split at hj
        · subst hj; exact .inl rfl
        split at hj
        · rename_i hk hb
          subst hj
          rcases List.mem_append.1 (by simpa using hb) with hb | hb
          · obtain ⟨T, cs, cs', _, g1, g2, g3⟩ := ok.bx j hb
            have hp : p.2 = .box T cs := by simpa [hat, h0] using g1
            obtain ⟨f, r, q1, q2, vs, q3, q4, q5⟩ := h.obj g2 (by simp)
            refine .inr ⟨r, by rw [hβ j hjl]; exact q2, ?_, .inr ⟨j, _, hsrc0 j hjl, q1, q2, by simp [hp, AObj.clear, AObj.occ]⟩⟩
            simp only [hp, AObj.clear]
            refine ⟨vs, q3, q4, ?_⟩
            have := All2.len q5
            have key : ∀ (cs : List AV) (vs : List Value), cs.length = vs.length → All2 (AV.R w (C.N s.heap β w) (C.fresh s.heap β w) β') (cs.map fun _ => AV.junk) vs := by
              intro cs
              induction cs with
              | nil => intro vs hh; cases vs <;> simp at hh; trivial
              | cons c cs ih => intro vs hh; cases vs with
                | nil => simp at hh
                | cons v vs => exact ⟨trivial, ih vs (by simpa using hh)⟩
            exact key cs vs (by omega)
          · have hb : j ∈ wholeOf la := (vecs_cases hb).resolve_right fun hp => by have := ok.pc j hp; omega
            obtain ⟨_, hx⟩ := ok.vc j hb
            have hx : p.2.whole = true := by simpa [hat, h0] using hx
            refine .inl ?_
            show p.2.clear = .dead
            revert hx
            cases p.2 <;> simp [AObj.whole, AObj.clear]
        · rename_i hk hb
          obtain ⟨f, hfs⟩ := hun j p h0 (by simpa using hk) (by simpa using hb)
          have hlt := hf.ob j p h0
          rw [hn] at hlt
          obtain ⟨r, hr⟩ : ∃ r, β[j]? = some r := ⟨_, List.getElem?_eq_getElem (by rw [h.bsize]; omega)⟩
          subst hj
          refine .inr ⟨r, by rw [hβ j hjl]; exact hr, AObj.R_pre hβ hlt (h.ob j (f, p.2) r hfs hr), .inr ⟨j, _, hsrc0 j hjl, hfs, hr, rfl⟩⟩
    · rw [hAM] at hl
      have hm := hf.mks l hl
      obtain ⟨hk, hb⟩ := hnm l hl
      show (baseHeapFrom hd ks (boxesOf la ++ vecsOf la) s0.heap 0)[l]? = _
      rw [base_get, hm]
      simp only [Option.map_some, Nat.zero_add, baseObj]
      rw [if_neg (by simpa using hk), if_neg (by simpa using hb)]
      cases hd <;> rfl
  have hbl := base_len (hd := hd) (ks := ks) (bs := boxesOf la ++ vecsOf la) s0.heap 0
  rw [hn] at hbl
  have I := Inv.items h hd la xu ls _ e I0
    (fun i l hl => by
      show src ((baseHeapFrom hd ks (boxesOf la ++ vecsOf la) s0.heap 0).length + i) = l
      rw [hbl]
      show (if n0 + i < n0 then _ else _) = _
      rw [if_neg (by omega), Nat.add_sub_cancel_left, hl]; rfl)
    (fun i o ho => by
      show β'[(baseHeapFrom hd ks (boxesOf la ++ vecsOf la) s0.heap 0).length + i]? = o
      rw [hbl]; exact hβ2 i o ho)
    (fun l hl => by
      have hln : l < n0 := by
        rcases List.mem_append.1 hl with hb | hb
        · obtain ⟨_, _, _, q, _⟩ := ok.bx l hb; omega
        · have := (ok.vc l hb).1; omega
      exact ⟨hsrc0 l hln, hβ l hln, by show l < (baseHeapFrom hd ks (boxesOf la ++ vecsOf la) s0.heap 0).length; rw [hbl]; exact hln⟩)
    (fun l hl => by
      obtain ⟨T, cs, cs', q, g1, g2, g3⟩ := ok.bx l hl
      obtain ⟨f, hfs⟩ := hat_eq g1 (by simp)
      refine ⟨T, cs.map fun _ => .junk, ?_⟩
      show hat (baseHeapFrom hd ks (boxesOf la ++ vecsOf la) s0.heap 0) l = _
      unfold hat
      rw [base_get, hfs]
      simp only [Option.map_some, Nat.zero_add, baseObj]
      rw [if_neg (fun hk => (ok.kk l (by simpa using hk)).2 (by simp [hl])), if_pos (by simp [hl])]
      rfl)
    (fun l hl hv => by
      obtain ⟨T, cs, cs', q, g1, g2, g3⟩ := ok.bx l hl
      rcases vecs_cases hv with hv | hv
      · obtain ⟨_, hx⟩ := ok.vc l hv
        rw [g1] at hx; simp [AObj.whole] at hx
      · have := ok.pc l hv
        omega)
    (fun l hl => hβ l (by have := ok.ms l hl; omega))
  obtain ⟨I, hil⟩ := I
  have hil : (encL hd la xu (junkAll D s0.tmps, baseHeapFrom hd ks (boxesOf la ++ vecsOf la) s0.heap 0)).2.length = n0 + ls.length := by
    rw [hil]; show (baseHeapFrom hd ks (boxesOf la ++ vecsOf la) s0.heap 0).length + _ = _; rw [hbl]
  refine ⟨β', ?_, ?_⟩
  · refine h.weaken _ β' src ?_ ?_ ?_ ?_ ?_ ?_ ?_ ?_
    · simp only [enc, KT.up_down]; rw [hil, hβ3]
    · simp only [enc, KT.up_down]; exact I.tl
    · exact hmk.symm
    · intro l hl
      simp only [enc, KT.up_down]
      refine ⟨I.im l (.inl hl), hβ l ?_⟩
      have := (List.getElem?_eq_some_iff.1 (hf.mks l ((hAM l).1 (.inl hl)))).1
      omega
    · intro i x hx
      simp only [enc, KT.up_down] at hx
      exact I.it i x hx
    · intro j o hj
      simp only [enc, KT.up_down] at hj
      exact I.io j o hj
    · intro j j' l o o' hj hj' ho ho' g g'
      simp only [enc, KT.up_down] at hj hj'
      have hdead : ∀ (i : Nat) (p : Bool × AObj), (encL hd la xu (junkAll D s0.tmps, baseHeapFrom hd ks (boxesOf la ++ vecsOf la) s0.heap 0)).2[i]? = some p → p.2 ≠ .dead → i < n0 → i ∉ ks := by
        intro i p hp hne hi hk
        rw [encL_keep la _ _ (by show i < (baseHeapFrom hd ks (boxesOf la ++ vecsOf la) s0.heap 0).length; omega) (ok.kk i hk).2] at hp
        have hp : (baseHeapFrom hd ks (boxesOf la ++ vecsOf la) s0.heap 0)[i]? = some p := hp
        rw [base_get] at hp
        cases h0 : s0.heap[i]? with
        | none => simp [h0] at hp
        | some q =>
          simp only [h0, Option.map_some, Option.some.injEq, Nat.zero_add, baseObj] at hp
          rw [if_pos (by simpa using hk)] at hp
          subst hp; exact hne rfl
      have inls : ∀ i, ¬ i < n0 → src i = some l → ls[i - n0]? = some (some l) := by
        intro i hi hs
        have hs : (if i < n0 then some i else (ls[i - n0]?).join) = some l := hs
        rw [if_neg hi] at hs
        cases hh : ls[i - n0]? with
        | none => simp [hh] at hs
        | some q => simp [hh] at hs; rw [hs]
      have low : ∀ i, i < n0 → src i = some l → i = l := fun i hi hs => by
        rw [hsrc0 i hi] at hs; simpa using hs
      by_cases h1 : j < n0 <;> by_cases h2 : j' < n0
      · rw [low j h1 g, low j' h2 g']
      · have e1 := low j h1 g
        rcases ok.ow l (List.mem_of_getElem? (inls j' h2 g')) with hk | hk
        · exact absurd (e1 ▸ hk) (hdead j o hj ho h1)
        · omega
      · have e1 := low j' h2 g'
        rcases ok.ow l (List.mem_of_getElem? (inls j h1 g)) with hk | hk
        · exact absurd (e1 ▸ hk) (hdead j' o' hj' ho' h2)
        · omega
      · have := nodupO_inj ok.nd (inls j h1 g) (inls j' h2 g')
        omega
    · intro f hff
      refine ⟨fun l hl => ?_, fun i x hx v hv => TV.R_pre hβ (by have := hf.frm f hff i x hx; rwa [hn] at this) hv⟩
      simp only [enc, KT.up_down]
      have ham : AllMarks C s l := .inr ⟨f, hff, hl⟩
      refine ⟨I.im l ham, hβ l ?_⟩
      have := (List.getElem?_eq_some_iff.1 (hf.mks l ((hAM l).1 ham))).1
      omega
  · intro β0 δ hb hb0
    have : β.take n0 = β0 := by rw [hb, ← hb0]; simp
    exact ⟨(recsOf β la ls).map (fun o => o.getD ⟨0, 0, 0, 0, 0, false, none, []⟩), by rw [← this]⟩

theorem enc_ext {s0 : AS} {h : Heap} {D ks : List Nat} {la : List Item} {ls : List (Option Nat)} (ok : okL s0.heap h D ks la ls = true) (x : KT (LA.kinds la)) {β0 β' : List Bl} (hb : ∃ δ, β' = β0 ++ δ) :
    Ext (· ∈ D) s0 (enc false s0 D ks la x) β0 β' := by
  have ok := okL_ok ok
  refine ⟨hb, fun i hi => ?_, ?_, ?_, fun l o hl ho => ?_, ⟨[], rfl⟩, fun l hm => ?_⟩
  · show (encL false la _ _).1[i]? = _
    rw [encL_tm la _ _ (fun hh => hi (ok.sl i hh))]
    exact junkAll_tm D _ hi
  · show (encL false la _ _).1.length = _
    rw [encL_tl]; exact junkAll_len _ _
  · show _ ≤ (encL false la _ _).2.length
    refine Nat.le_trans ?_ (encL_le _ _ _)
    show _ ≤ (baseHeapFrom false ks (boxesOf la ++ vecsOf la) s0.heap 0).length
    rw [base_len]; exact Nat.le_refl _
  · have ho : (encL false la _ _).2[l]? = _ := ho
    have := encL_flag la _ _ (by show l < (baseHeapFrom false ks (boxesOf la ++ vecsOf la) s0.heap 0).length; rw [base_len]; exact hl) ho
    have this : (baseHeapFrom false ks (boxesOf la ++ vecsOf la) s0.heap 0)[l]? = some (false, o) := this
    rw [base_get] at this
    cases h0 : s0.heap[l]? with
    | none => simp [h0] at this
    | some p =>
      simp only [h0, Option.map_some, Option.some.injEq, Nat.zero_add, baseObj] at this
      split at this
      · simp at this
      split at this
      · simp at this
      · simp at this
        obtain ⟨e1, e2⟩ := this
        cases p; simp_all
  · have hnk : l ∉ ks := fun hk => by have := (ok.kk l hk).1; simp [hat, hm, AObj.isMark] at this
    have hnb : l ∉ boxesOf la ++ vecsOf la := fun hb => by
      rcases List.mem_append.1 hb with hb | hb
      · obtain ⟨T, cs, _, _, hx, _⟩ := ok.bx l hb; simp [hat, hm] at hx
      · rcases vecs_cases hb with hb | hb
        · obtain ⟨_, hx⟩ := ok.vc l hb; simp [hat, hm, AObj.whole] at hx
        · have := ok.pc l hb
          have := (List.getElem?_eq_some_iff.1 hm).1
          omega
    show (encL false la _ _).2[l]? = _
    rw [encL_keep la _ _ (by show l < (baseHeapFrom false ks (boxesOf la ++ vecsOf la) s0.heap 0).length; rw [base_len]; exact (List.getElem?_eq_some_iff.1 hm).1) hnb]
    show (baseHeapFrom false ks (boxesOf la ++ vecsOf la) s0.heap 0)[l]? = _
    rw [base_get, hm]
    simp only [Option.map_some, Nat.zero_add, baseObj]
    rw [if_neg (by simpa using hnk), if_neg (by simpa using hnb)]
    rfl
end
end Go.Proofs.AM
end

section
namespace Go.Proofs.AM
open Go Go.RowKit

def Two {α : Type} (f f' : (R : Type) → (α → Option R) → Option R) : Prop :=
  ∀ (R : Type) (k : α → Option R) (x : R), f R k = some x → ∃ t, k t = some x ∧ ∀ (R' : Type) (k' : α → Option R'), f' R' k' = k' t

def Sub (h h' : Heap) : Prop := ∀ l, hat h l = .dead ∨ hat h' l = hat h l

theorem Sub.refl (h : Heap) : Sub h h := fun _ => .inr rfl
theorem Sub.app (h δ : Heap) : Sub h (h ++ δ) := fun l => by
  unfold hat
  by_cases hl : l < h.length
  · right; rw [List.getElem?_append_left hl]
  · left; rw [List.getElem?_eq_none (by omega)]
theorem Sub.nil (h : Heap) : Sub [] h := fun l => .inl rfl

section
variable {P : Program} {h h' : Heap}

theorem two_ret {α : Type} (t : α) : Two (fun _ k => k t) (fun _ k => k t) := fun _ k x e => ⟨t, e, fun _ _ => rfl⟩

theorem cut_two {t : TypeId} {cs : List AV} {off : Nat} : Two (fun _ k => cut P t cs off k) (fun _ k => cut P t cs off k) := by
  intro R k x e
  dsimp only at e ⊢
  unfold cut at e ⊢
  split at e
  · rename_i i hu hi
    dsimp only at e ⊢
    split at e
    · rename_i hc
      split at e
      · rename_i tv hs
        refine ⟨tv, e, fun R' k' => ?_⟩
        first | rfl | rw [if_pos hc, hs] | rw [if_pos hc]
      · simp at e
    · simp at e
  · simp at e

theorem gd_pos {R : Type} {c : Prop} [Decidable c] {y : Option R} (h : c) : gd c y = y := if_pos h

theorem hat_two {h h' : Heap} (hs : Sub h h') {l : Nat} {o : AObj} (e : hat h l = o) (hne : o ≠ .dead) : hat h' l = o := by
  rcases hs l with hd | hd
  · rw [e] at hd; exact absurd hd hne
  · rw [hd, e]

theorem hpool_two {h h' : Heap} (hs : Sub h h') {nm p : Nat} (e : hpool h nm = some p) : hpool h' nm = some p := by
  unfold hpool at e ⊢
  split at e
  · rename_i ho
    rw [hat_two hs ho (by simp)]; exact e
  · rename_i q ho
    rw [hat_two hs ho (by simp)]
    dsimp only
    split at e
    · rename_i hp
      rw [hat_two hs hp (by simp)]; exact e
    · simp at e
  · simp at e

theorem asub_k {t : TypeId} {q : K} {y : q.den} {off : Nat} {fr : Bool} {R : Type} (k : TV → Option R) : asub P t q y off fr k = (asub P t q y off fr some).bind k := by
  unfold asub
  repeat' split
  all_goals rfl

theorem aloadD_two {t : TypeId} {q : K} {y : q.den} {off : Nat} {fr : Bool} : Two (fun _ k => aloadD P t q y off fr k) (fun _ k => aloadD P t q y off fr k) := by
  intro R k x e
  dsimp only at e ⊢
  unfold aloadD at e ⊢
  by_cases hw : q.wide = true
  · simp only [if_pos hw] at e ⊢
    rw [asub_k] at e
    obtain ⟨tv, h1, h2⟩ := Option.bind_eq_some_iff.1 e
    exact ⟨tv, h2, fun R' k' => by rw [asub_k, h1]; rfl⟩
  · simp only [if_neg hw] at e ⊢
    exact cut_two R k x e

theorem aload_two (hs : Sub h h') {t : TypeId} {a : AV} : Two (fun _ k => aload P h t a k) (fun _ k => aload P h' t a k) := by
  intro R k x e
  dsimp only at e ⊢
  cases a with
  | ptr l off =>
    simp only [aload] at e ⊢
    rcases hs l with hd | he
    · simp [hd] at e
    rw [he]
    split at e
    · exact cut_two R k x e
    · exact aloadD_two R k x e
    · simp at e
  | ro q y off fr => exact aloadD_two R k x e
  | dat q y fr =>
    cases q with
    | rp q => exact aloadD_two R k x e
    | _ => simp [aload] at e
  | vp l i off =>
    simp only [aload] at e ⊢
    rcases hs l with hd | he
    · simp [hd, hpool] at e
    rw [he]
    split at e
    · obtain ⟨hg, e⟩ := gd_some e
      simp only [gd_pos hg]
      exact aloadD_two R k x e
    · obtain ⟨hg, e⟩ := gd_some e
      simp only [gd_pos hg]
      exact cut_two R k x e
    · split at e
      rotate_left
      · simp at e
      rename_i p hp
      split at e
      rotate_left
      · simp at e
      rename_i hob
      simp only [hpool_two hs hp, hat_two hs hob (by simp)]
      obtain ⟨hg, e⟩ := gd_some e
      simp only [gd_pos hg]
      exact cut_two R k x e
  | dp p i j off =>
    simp only [aload] at e ⊢
    split at e
    rotate_left
    · simp at e
    rename_i hob
    simp only [hat_two hs hob (by simp)]
    obtain ⟨hg, e⟩ := gd_some e
    simp only [gd_pos hg]
    exact cut_two R k x e
  | _ => simp [aload] at e

theorem szOk_two {e : TypeId} {n : Nat} {f f' : (R : Type) → (TV → Option R) → Option R} (hf : Two f f') : Two (fun R k => szOk P e n (f R k)) (fun R k => szOk P e n (f' R k)) := by
  intro R k x e
  dsimp only at e ⊢
  unfold szOk at e ⊢
  split at e
  · split at e
    · rename_i hs
      simp only [hs, if_true]
      exact hf R k x e
    · simp at e
  · simp at e

theorem gd_two {α : Type} {c : Prop} [Decidable c] {f f' : (R : Type) → (α → Option R) → Option R} (hf : Two f f') : Two (fun R k => gd c (f R k)) (fun R k => gd c (f' R k)) := by
  intro R k x e
  obtain ⟨hc, e⟩ := gd_some e
  simp only [gd_pos hc]
  exact hf R k x e

theorem abin_two {op : BinOp} {kx ky : IntKind} {m n : Int} : Two (fun _ k => abin op kx m ky n k) (fun _ k => abin op kx m ky n k) := by
  intro R k x e
  dsimp only at e ⊢
  by_cases hk : kx = ky
  · by_cases h0 : n = 0
    · cases op <;> simp only [abin, hk, h0, if_true] at e ⊢ <;> first
        | exact ⟨_, e, fun _ _ => rfl⟩
        | (obtain ⟨hc, e⟩ := gd_some e
           exact ⟨_, e, fun _ _ => gd_pos hc⟩)
        | simp at e
    · cases op <;> simp only [abin, hk, h0, if_true, if_false] at e ⊢ <;> first
        | exact ⟨_, e, fun _ _ => rfl⟩
        | (obtain ⟨hc, e⟩ := gd_some e
           exact ⟨_, e, fun _ _ => gd_pos hc⟩)
        | simp at e
  · cases op <;> simp only [abin, hk, if_false] at e ⊢ <;> first
        | exact ⟨_, e, fun _ _ => rfl⟩
        | (obtain ⟨hc, e⟩ := gd_some e
           exact ⟨_, e, fun _ _ => gd_pos hc⟩)
        | simp at e

theorem afieldAddr_two {f : Field} {a : AV} : Two (fun _ k => afieldAddr P f a k) (fun _ k => afieldAddr P f a k) := by
  intro R k x e
  dsimp only at e ⊢
  unfold afieldAddr at e ⊢
  split at e
  · simp at e
  rename_i hc
  simp only [hc, if_false]
  split at e
  · exact ⟨_, e, fun _ _ => rfl⟩
  · exact ⟨_, e, fun _ _ => rfl⟩
  · exact ⟨_, e, fun _ _ => rfl⟩
  · exact ⟨_, e, fun _ _ => rfl⟩
  · exact ⟨_, e, fun _ _ => rfl⟩
  · simp at e

theorem aindexAddr_two (hs : Sub h h') {t : TypeId} {a : AV} {i : Int} : Two (fun _ k => aindexAddr P h t a i k) (fun _ k => aindexAddr P h' t a i k) := by
  intro R k x e
  dsimp only at e ⊢
  cases a with
  | dat q y fr =>
    cases q with
    | sl q => exact szOk_two (gd_two (gd_two (two_ret _))) R k x e
    | _ => simp [aindexAddr] at e
  | vf l =>
    simp only [aindexAddr] at e ⊢
    rcases hs l with hd | he
    · simp [hd] at e
    rw [he]
    split at e
    · exact szOk_two (gd_two (gd_two (two_ret _))) R k x e
    · exact szOk_two (gd_two (gd_two (two_ret _))) R k x e
    · simp at e
  | vw l off len =>
    simp only [aindexAddr] at e ⊢
    rcases hs l with hd | he
    · simp [hd] at e
    rw [he]
    split at e
    · exact szOk_two (gd_two (gd_two (two_ret _))) R k x e
    · simp at e
  | hv nm n sz => exact szOk_two (gd_two (gd_two (two_ret _))) R k x e
  | hw nm off n sz => exact szOk_two (gd_two (gd_two (two_ret _))) R k x e
  | dv nm p m =>
    simp only [aindexAddr] at e ⊢
    split at e
    rotate_left
    · simp at e
    rename_i hob
    simp only [hat_two hs hob (by simp)]
    exact szOk_two (gd_two (gd_two (two_ret _))) R k x e
  | _ => simp [aindexAddr] at e

theorem alen_two (hs : Sub h h') {a : AV} {n : Int} (e : alen h a = some n) : alen h' a = some n := by
  unfold alen at e ⊢
  split at e
  · exact e
  · exact e
  · rename_i l
    rcases hs l with hd | he
    · simp [hd] at e
    · rw [he]; exact e
  · exact e
  · exact e
  · exact e
  · split at e
    · rename_i hob
      rw [hat_two hs hob (by simp)]; exact e
    · simp at e
  · simp at e

theorem asz_two (hs : Sub h h') {a : AV} {n : Nat} (e : asz h a = some n) : asz h' a = some n := by
  unfold asz at e ⊢
  split at e
  · exact e
  · rename_i l
    rcases hs l with hd | he
    · simp [hd] at e
    · rw [he]; exact e
  · rename_i l _ _
    rcases hs l with hd | he
    · simp [hd] at e
    · rw [he]; exact e
  · exact e
  · exact e
  · simp at e

theorem aslice_two {a : AV} {lo hi n : Int} : Two (fun _ k => aslice h a lo hi n k) (fun _ k => aslice h' a lo hi n k) := by
  refine gd_two (gd_two (gd_two ?_))
  intro R k x e
  dsimp only at e ⊢
  split at e
  · exact ⟨_, e, fun _ _ => rfl⟩
  · exact ⟨_, e, fun _ _ => rfl⟩
  · exact ⟨_, e, fun _ _ => rfl⟩
  · exact ⟨_, e, fun _ _ => rfl⟩
  · exact ⟨_, e, fun _ _ => rfl⟩
  · simp at e

theorem toD_two (hs : Sub h h') {k : K} {a : AV} {p : k.den × Bool} (e : AV.toD k (a.bor h) = some p) : AV.toD k (a.bor h') = some p := by
  cases a with
  | vf l =>
    simp only [AV.bor] at e ⊢
    rcases hs l with hd | he
    · simp [hd, AV.toD] at e
    rw [he]; exact e
  | vw l _ _ =>
    simp only [AV.bor] at e ⊢
    rcases hs l with hd | he
    · simp [hd, AV.toD] at e
    rw [he]; exact e
  | dv nm l i =>
    simp only [AV.bor] at e ⊢
    rcases hs l with hd | he
    · simp [hd, AV.toD] at e
    rw [he]; exact e
  | _ => exact e

theorem toDD_two (hs : Sub h h') {k : K} {a : AV} {p : k.den × Bool} (e : AV.toD k (a.borD h) = some p) : AV.toD k (a.borD h') = some p := by
  cases a with
  | hv nm n sz =>
    simp only [AV.borD] at e ⊢
    split at e
    rotate_left
    · simp [AV.toD] at e
    rename_i q hq
    split at e
    rotate_left
    · simp [AV.toD] at e
    rename_i hob
    simp only [hpool_two hs hq, hat_two hs hob (by simp)]
    exact e
  | hw nm off n sz =>
    simp only [AV.borD] at e ⊢
    split at e
    rotate_left
    · simp [AV.toD] at e
    rename_i q hq
    split at e
    rotate_left
    · simp [AV.toD] at e
    rename_i hob
    simp only [hpool_two hs hq, hat_two hs hob (by simp)]
    exact e
  | _ => simp only [AV.borD] at e ⊢; exact toD_two hs e

theorem ofs_two (hs : Sub h h') (B : Bool) : ∀ (k : K) (l : List AV) (p : k.den × Bool × List AV), K.ofs h B k l = some p → K.ofs h' B k l = some p := by
  have cell : ∀ (k : K) (l : List AV) (p : k.den × Bool × List AV),
      (match l with
        | a :: l => match AV.toD k (if B then a.borD h else a) with
          | some (x, f) => some (x, f, l)
          | none => none
        | [] => none) = some p →
      (match l with
        | a :: l => match AV.toD k (if B then a.borD h' else a) with
          | some (x, f) => some (x, f, l)
          | none => none
        | [] => none) = some p := by
    intro k l p e
    cases l with
    | nil => simp at e
    | cons a l =>
      dsimp only at e ⊢
      cases B
      · exact e
      · simp only [if_true] at e ⊢
        split at e
        · rename_i y f hy
          rw [toDD_two hs hy]; exact e
        · simp at e
  intro k
  induction k with
  | ar n k _ =>
    intro l p e
    simp [K.ofs] at e
  | pair a b iha ihb =>
    intro l p e
    unfold K.ofs at e ⊢
    split at e
    · rename_i x f l1 h1
      rw [iha _ _ h1]
      dsimp only
      split at e
      · rename_i y g l2 h2
        rw [ihb _ _ h2]
        exact e
      · simp at e
    · simp at e
  | unit => intro l p e; exact e
  | rp k ih =>
    intro l p e
    cases l with
    | nil => simp [K.ofs] at e
    | cons a l =>
      cases a with
      | ptr m off =>
        simp only [K.ofs] at e ⊢
        rcases hs m with hd | he
        · cases B <;> simp [hd] at e
        rw [he]
        cases B
        · simp at e
        · cases hm : hat h m with
          | box T cs =>
            simp only [hm] at e ⊢
            split at e
            · rename_i x f l2 hx
              rw [ih _ _ hx]; exact e
            · simp at e
          | _ => simp [hm] at e
      | _ => exact e
  | int k => intro l p e; exact cell _ l p (by cases l <;> exact e) |> fun h => by cases l <;> exact h
  | bool => intro l p e; exact cell _ l p (by cases l <;> exact e) |> fun h => by cases l <;> exact h
  | str => intro l p e; exact cell _ l p (by cases l <;> exact e) |> fun h => by cases l <;> exact h
  | sl k _ => intro l p e; exact cell _ l p (by cases l <;> exact e) |> fun h => by cases l <;> exact h

theorem of_two (hs : Sub h h') {B : Bool} {k : K} {l : List AV} {p : k.den × Bool} (e : K.of h B k l = some p) : K.of h' B k l = some p := by
  unfold K.of at e ⊢
  split at e
  · rename_i x f hx
    rw [ofs_two hs B k l _ hx]; exact e
  · simp at e

theorem adec_two (hs : Sub h h') {B : Bool} : ∀ (ps : List (Bool × K)) (ts : List TV) (p : PDen ps × Bool), adec h B ps ts = some p → adec h' B ps ts = some p
  | [], [], p, e => e
  | [], _ :: _, p, e => by simp [adec] at e
  | _ :: _, [], p, e => by simp [adec] at e
  | (b, q) :: ps, t :: ts, p, e => by
    unfold adec at e ⊢
    cases b <;> cases t <;> dsimp only at e ⊢ <;> first
      | (split at e
         · rename_i x f y g h1 h2
           rw [adec_two hs ps ts _ h2, of_two hs h1]
           exact e
         · simp at e)
      | (split at e
         · rename_i x f y g h1 h2
           rw [adec_two hs ps ts _ h2, h1]
           exact e
         · simp at e)
      | simp at e

theorem acall_two {Γ : Env} {r s : AS} (hs : Sub r.heap s.heap) {f : FuncId} {args : List TV} : Two (fun _ k => acall Γ r f args k) (fun _ k => acall Γ s f args k) := by
  intro R k x e
  dsimp only at e ⊢
  unfold acall at e ⊢
  split at e
  · simp at e
  rename_i c hc
  split at e
  · simp at e
  rename_i y fr hd
  simp only [adec_two hs _ _ _ hd]
  cases hm : c.model y with
  | none => simp [hm] at e
  | some z =>
    simp only [hm, Option.bind_some] at e ⊢
    split at e
    · rename_i tv ht
      exact ⟨tv, e, fun _ _ => by first | rfl | rw [ht]⟩
    · simp at e
end
end Go.Proofs.AM
end

section
namespace Go.Proofs.AM
open Go Go.RowKit

def Like (o : Oper) (r s : AS) : Prop := ∀ x ∈ o.op.operands, s.ev x = r.ev x

section
variable {P : Program} {r s : AS} {o : Oper}

theorem map_ev {l : List Operand} (h : ∀ x ∈ l, s.ev x = r.ev x) : l.map s.ev = l.map r.ev := List.map_congr_left h

theorem abound_like {d : Int} {x : Option Operand} (h : ∀ y ∈ x.toArray, s.ev y = r.ev y) : abound s d x = abound r d x := by
  cases x with
  | none => rfl
  | some y => simp only [abound]; rw [h y (by simp)]

theorem asliceA_like {t : TypeId} {q : K} {y : q.den} {off : Nat} {fr : Bool} {lo hi : Option Operand} (h1 : ∀ y ∈ lo.toArray, s.ev y = r.ev y) (h2 : ∀ y ∈ hi.toArray, s.ev y = r.ev y) {R : Type} (k : TV → Option R) : asliceA P s t q y off fr lo hi k = asliceA P r t q y off fr lo hi k := by
  unfold asliceA
  have e1 : ∀ d, abound s d lo = abound r d lo := fun d => abound_like h1
  have e2 : ∀ d, abound s d hi = abound r d hi := fun d => abound_like h2
  simp only [e1, e2]

theorem asliceA_k {t : TypeId} {q : K} {y : q.den} {off : Nat} {fr : Bool} {lo hi : Option Operand} {R : Type} (k : TV → Option R) : asliceA P r t q y off fr lo hi k = (asliceA P r t q y off fr lo hi some).bind k := by
  unfold asliceA gd
  repeat' split
  all_goals rfl

theorem asliceA_two {t : TypeId} {q : K} {y : q.den} {off : Nat} {fr : Bool} {lo hi : Option Operand} (h1 : ∀ y ∈ lo.toArray, s.ev y = r.ev y) (h2 : ∀ y ∈ hi.toArray, s.ev y = r.ev y) : Two (fun _ k => asliceA P r t q y off fr lo hi k) (fun _ k => asliceA P s t q y off fr lo hi k) := by
  intro R k x e
  dsimp only at e ⊢
  rw [asliceA_k] at e
  obtain ⟨tv, g1, g2⟩ := Option.bind_eq_some_iff.1 e
  exact ⟨tv, g2, fun R' k' => by rw [asliceA_like h1 h2, asliceA_k, g1]; rfl⟩

theorem aval_two (hev : Like o r s) (hs : Sub r.heap s.heap) : Two (fun _ k => aval P r o k) (fun _ k => aval P s o k) := by
  intro R k x e
  dsimp only at e ⊢
  unfold aval at e ⊢
  unfold Like at hev
  cases hop : o.op with
  | move y =>
    simp only [hop, Op.operands] at e hev ⊢
    rw [hev y (by simp)]
    exact ⟨_, e, fun _ _ => rfl⟩
  | assign y =>
    simp only [hop, Op.operands] at e hev ⊢
    rw [hev y (by simp)]
    exact ⟨_, e, fun _ _ => rfl⟩
  | pick c y z =>
    simp only [hop, Op.operands] at e hev ⊢
    rw [hev c (by simp), hev y (by simp), hev z (by simp)]
    generalize r.ev c = u at e ⊢
    generalize r.ev y = v at e ⊢
    generalize r.ev z = t at e ⊢
    split at e
    · rename_i b f
      split at e
      · exact ⟨_, e, fun _ _ => rfl⟩
      · cases b
        · exact ⟨t, e, fun _ _ => by first | rfl | (split <;> rfl)⟩
        · exact ⟨v, e, fun _ _ => by first | rfl | (split <;> rfl)⟩
    · simp at e
  | load t y =>
    simp only [hop, Op.operands] at e hev ⊢
    rw [hev y (by simp)]
    generalize r.ev y = u at e ⊢
    split at e
    · exact aload_two hs R k x e
    · simp at e
  | nilCheck y =>
    simp only [hop, Op.operands] at e hev ⊢
    rw [hev y (by simp)]
    generalize r.ev y = u at e ⊢
    split at e
    · exact ⟨_, e, fun _ _ => rfl⟩
    · exact ⟨_, e, fun _ _ => rfl⟩
    · exact ⟨_, e, fun _ _ => rfl⟩
    · exact ⟨_, e, fun _ _ => rfl⟩
    · simp at e
  | binOp op t y z t' =>
    simp only [hop, Op.operands] at e hev ⊢
    rw [hev y (by simp), hev z (by simp)]
    generalize r.ev y = u at e ⊢
    generalize r.ev z = v at e ⊢
    split at e
    · exact abin_two R k x e
    · split at e
      · simp at e
      rename_i hgd
      split at e
      · split at e
        · exact ⟨_, e, fun _ _ => if_neg hgd⟩
        · simp at e
      · split at e
        · exact ⟨_, e, fun _ _ => if_neg hgd⟩
        · simp at e
      · simp at e
    · split at e
      · rename_i b hb
        split at e
        · exact ⟨_, e, fun _ _ => by simp only [hb]⟩
        · exact ⟨_, e, fun _ _ => by simp only [hb]⟩
        · simp at e
      · simp at e
    · simp at e
  | unOp op t y =>
    simp only [hop, Op.operands] at e hev ⊢
    rw [hev y (by simp)]
    generalize r.ev y = u at e ⊢
    split at e
    · exact ⟨_, e, fun _ _ => rfl⟩
    · exact ⟨_, e, fun _ _ => rfl⟩
    · simp at e
  | convert t t' y =>
    simp only [hop, Op.operands] at e hev ⊢
    rw [hev y (by simp)]
    generalize r.ev y = u at e ⊢
    split at e
    · exact ⟨_, e, fun _ _ => rfl⟩
    · split at e
      rotate_left
      · simp at e
      split at e
      rotate_left
      · simp at e
      rename_i hbo
      exact ⟨_, e, fun _ _ => by simp only [toD_two hs hbo]⟩
    · simp at e
  | makeFunc f first captured =>
    have hf : ∃ g, f = .func g := by
      cases f with
      | func g => exact ⟨g, rfl⟩
      | _ => simp [hop] at e
    obtain ⟨f, rfl⟩ := hf
    simp only [hop, Op.operands] at e hev ⊢
    have hc : captured.toList.map s.ev = captured.toList.map r.ev := map_ev fun y hy => hev y (by simp [Array.mem_toList_iff.1 hy])
    rw [hc]
    generalize captured.toList.map r.ev = u at e ⊢
    split at e
    · exact ⟨_, e, fun _ _ => rfl⟩
    · simp at e
  | extract y i =>
    simp only [hop, Op.operands] at e hev ⊢
    rw [hev y (by simp)]
    generalize r.ev y = u at e ⊢
    split at e
    · split at e
      · split at e
        · exact ⟨_, e, fun _ _ => rfl⟩
        · simp at e
      · simp at e
    · simp at e
  | fieldAddr t y i =>
    simp only [hop, Op.operands] at e hev ⊢
    rw [hev y (by simp)]
    generalize r.ev y = u at e ⊢
    split at e
    · exact afieldAddr_two R k x e
    · simp at e
  | field t y i =>
    simp only [hop, Op.operands] at e hev ⊢
    rw [hev y (by simp)]
    generalize r.ev y = u at e ⊢
    split at e
    · exact cut_two R k x e
    · simp at e
  | indexAddr t y i =>
    simp only [hop, Op.operands] at e hev ⊢
    rw [hev y (by simp), hev i (by simp)]
    generalize r.ev y = u at e ⊢
    generalize r.ev i = v at e ⊢
    split at e
    · exact aindexAddr_two hs R k x e
    · simp at e
  | slice t y lo hi mx =>
    cases mx with
    | some mx =>
      cases lo with
      | some _ => simp [hop] at e
      | none =>
        cases hi with
        | none => simp [hop] at e
        | some hi =>
          simp only [hop, Op.operands] at e hev ⊢
          rw [hev y (by simp), hev hi (by simp), hev mx (by simp)]
          generalize r.ev y = u at e ⊢
          generalize r.ev hi = v1 at e ⊢
          generalize r.ev mx = v2 at e ⊢
          split at e
          rotate_left
          · simp at e
          unfold aslice3 at e ⊢
          split at e
          rotate_left
          · simp at e
          rename_i hn
          rw [alen_two hs hn]
          obtain ⟨g1, e1⟩ := gd_some e; clear e
          obtain ⟨g2, e2⟩ := gd_some e1; clear e1
          obtain ⟨g3, e⟩ := gd_some e2; clear e2
          split at e
          · exact ⟨_, e, fun _ _ => by simp only [gd_pos g1, gd_pos g2, gd_pos g3]⟩
          · simp at e
    | none =>
      simp only [hop, Op.operands] at e hev ⊢
      rw [hev y (by simp)]
      generalize r.ev y = u at e ⊢
      split at e
      · split at e
        · rename_i n z h1 h2
          rw [alen_two hs h1, asz_two hs h2]
          dsimp only
          rw [abound_like (r := r) (fun v hv => hev v (by simp at hv ⊢; simp [hv])), abound_like (r := r) (fun v hv => hev v (by simp at hv ⊢; simp [hv]))]
          split at e
          · exact szOk_two aslice_two R k x e
          · simp at e
        · simp at e
      · exact asliceA_two (fun v hv => hev v (by simp at hv ⊢; simp [hv])) (fun v hv => hev v (by simp at hv ⊢; simp [hv])) R k x e
      · exact asliceA_two (fun v hv => hev v (by simp at hv ⊢; simp [hv])) (fun v hv => hev v (by simp at hv ⊢; simp [hv])) R k x e
      · simp at e
  | build t parts =>
    simp only [hop, Op.operands] at e hev ⊢
    have hc : (parts.toList.map fun p => (p.1, s.ev p.2)) = parts.toList.map fun p => (p.1, r.ev p.2) := List.map_congr_left fun p hp => by
      rw [hev p.2 (by simp only [List.mem_toArray, List.mem_map]; exact ⟨p, hp, rfl⟩)]
    have hc' : (parts.toList.map fun (i, x) => (i, s.ev x)) = parts.toList.map fun (i, x) => (i, r.ev x) := hc
    rw [hc']
    generalize (parts.toList.map fun (i, x) => (i, r.ev x)) = u at e ⊢
    split at e
    · split at e
      · exact ⟨_, e, fun _ _ => rfl⟩
      · simp at e
    · simp at e
  | call c =>
    simp only [hop, Op.operands, Call.operands] at e hev ⊢
    have hc : c.args.toList.map s.ev = c.args.toList.map r.ev := map_ev fun y hy => hev y (by simp [Array.mem_toList_iff.1 hy])
    have hc1 : ∀ y ∈ c.args.toList, s.ev y = r.ev y := fun y hy => hev y (by simp [Array.mem_toList_iff.1 hy])
    unfold abuiltin at e ⊢
    rw [hc]
    generalize c.args.toList.map r.ev = u at e ⊢
    generalize c.args.toList = l at e hc1 ⊢
    split at e
    · split at e
      · rename_i y t _
        rw [hc1 y (by simp)]
        generalize r.ev y = v at e ⊢
        split at e
        · split at e
          · rename_i n hn
            rw [alen_two hs hn]
            exact ⟨_, e, fun _ _ => rfl⟩
          · simp at e
        · rename_i l _
          split at e
          · rename_i hu hh
            have hx : hat s.heap l = hat r.heap l := (hs l).resolve_left (by rw [hh]; simp)
            rw [hx]
            exact ⟨_, e, fun _ _ => by simp only [hu, hh]⟩
          · simp at e
        · simp at e
      · simp at e
    · split at e
      · exact ⟨_, e, fun _ _ => rfl⟩
      · simp at e
    · split at e
      · exact ⟨_, e, fun _ _ => rfl⟩
      · simp at e
    · simp at e
  | makeInterface t y =>
    simp only [hop, Op.operands] at e hev ⊢
    rw [hev y (by simp)]
    generalize r.ev y = u at e ⊢
    split at e
    · simp at e
    · rename_i d av hne hd
      split at e
      · simp at e
      · refine ⟨_, e, fun _ _ => ?_⟩
        rfl
    · simp at e
  | _ => simp [hop] at e
end
end Go.Proofs.AM
end

section
namespace Go.Proofs.AM
open Go Go.RowKit

def isEff (Γ : Env) (o : Oper) : Bool := match o.op with
  | .alloc _ | .box _ _ | .store _ _ _ | .makeMap _ _ | .mapUpdate _ _ _ _ | .range _ _ | .mapEntry _ _ _ | .entryStore _ _ _ _ => true
  | .makeSlice _ _ _ | .buildSlice _ _ _ => !Γ.im o
  | .slice _ _ _ _ _ => Γ.im o
  | .call c => match c.callee with
    | .builtin .append => !Γ.im o
    | .builtin .copy | .builtin .delete => true
    | .value (.func f) => (Γ.hd f).isSome && !Γ.im o
    | _ => false
  | _ => false

def isPush (Γ : Env) (o : Oper) : Bool := match o.op with
  | .alloc _ | .box _ _ | .makeSlice _ _ _ | .buildSlice _ _ _ | .makeMap _ _ => true
  | .call c => match c.callee with
    | .builtin .append => match c.args.toList with
      | .const (.slice none 0 0) :: _ => true
      | _ => false
    | .value (.func f) => match Γ.hd f with
      | some d => d.push
      | none => false
    | _ => false
  | _ => false

def amakeV (P : Program) (s : AS) (t : TypeId) (x y : Operand) {R : Type} (k : TV → Option R) : Option R :=
  match aelem P t, s.ev x, s.ev y with
  | some e, .one (.dat (.int .i64) n _), .one (.dat (.int .i64) m _) => match P.info? e, kindOf P 30 e, azero P e with
    | some i, some q, some z => match K.of s.heap false q z with
      | some (zd, true) => if i.size = q.size ∧ 0 < i.size ∧ 0 < i.bytes then gd (0 ≤ n) (gd (n ≤ m) (gd (m * i.bytes ≤ 140737488355328) (k (.one (.dat (.sl q) (List.replicate n.toNat zd) true))))) else none
      | _ => none
    | _, _, _ => none
  | _, _, _ => none

def abuildV (P : Program) (s : AS) (t : TypeId) (n : Nat) (parts : List (Nat × Operand)) {R : Type} (k : TV → Option R) : Option R :=
  match aelem P t with
  | none => none
  | some e => match P.info? e, kindOf P 30 e, azero P e with
    | some i, some q, some z => if i.size = q.size ∧ z.length = q.size ∧ parts.length = n ∧ n * i.size ≤ 16777216 then
        match aelems s.heap q 0 (parts.map fun p => (p.1, s.ev p.2)) with
        | some (xs, f) => k (.one (.dat (.sl q) xs f))
        | none => none
      else none
    | _, _, _ => none

def avc (P : Program) (Γ : Env) (s : AS) (o : Oper) {R : Type} (k : TV → Option R) : Option R := match o.op with
  | .call c => match c.callee with
    | .builtin .append => aappendV P s c k
    | .builtin _ => aval P s o k
    | .value f => match s.ev f with
      | .one (.fn fid caps) => match Γ.hd fid with
        | none => acall Γ s fid (c.args.toList.map s.ev ++ caps.map (fun l => .one (.ptr l 0))) k
        | some _ => match Γ.im o with
          | true => acall Γ s fid (c.args.toList.map s.ev ++ caps.map (fun l => .one (.ptr l 0))) k
          | false => none
      | _ => none
    | _ => none
  | .makeSlice t x y => amakeV P s t x y k
  | .buildSlice t n parts => abuildV P s t n parts.toList k
  | .lookup t x i ok => alookup P s.heap t (s.ev x) (s.ev i) ok k
  | .entry x => aentry s.heap (s.ev x) k
  | _ => aval P s o k

section
variable {P : Program} {Γ : Env} {r s : AS} {o : Oper}

theorem adeepB_im (h : Γ.im o = true) {t : TypeId} {n : Nat} {parts : List (Nat × Operand)} : adeepB P Γ s o t n parts = none := by
  unfold adeepB
  split
  · rfl
  · rw [if_pos h]

theorem adeepB_like {t : TypeId} {n : Nat} {parts : List (Nat × Operand)} (h : ∀ p ∈ parts, s.ev p.2 = r.ev p.2) : adeepB P Γ s o t n parts = adeepB P Γ r o t n parts := by
  unfold adeepB
  split
  · rfl
  · split
    · rfl
    · split
      · rfl
      · split
        · unfold deepOne
          split
          · rename_i x i z _ _
            rw [h (0, x) (by simp)]
          · rfl
        · rfl

theorem astep_avc (h : isEff Γ o = false) {R : Type} (k : AS → Option R) : astep P Γ s o k = avc P Γ s o (fun tv => k (s.put o.dst tv)) := by
  unfold isEff at h
  unfold astep avc
  cases hop : o.op with
  | call c =>
    simp only [hop] at h ⊢
    cases hc : c.callee with
    | builtin b => cases b <;> simp [hc] at h ⊢ <;> simp [h]
    | value f =>
      simp only [hc] at h ⊢
      generalize hu : s.ev f = u
      cases u with
      | one a => cases a with
        | fn fid caps =>
          simp only
          cases hd : Γ.hd fid with
          | none => rfl
          | some d =>
            simp only
            cases him : Γ.im o with
            | true => rfl
            | false =>
              cases f with
              | func g =>
                simp only [AS.ev, TV.one.injEq, AV.fn.injEq] at hu
                obtain ⟨rfl, _⟩ := hu
                simp [hd, him] at h
              | _ => rfl
        | _ => rfl
      | _ => rfl
    | invoke _ _ => rfl
  | makeSlice t x y =>
    simp only [hop, Bool.not_eq_false'] at h
    simp only [h]
    unfold amake amakeV
    split
    · rename_i e n f1 m f2 h1 h2 h3
      simp only [h1, h2, h3]
      split
      · rename_i i q z g1 g2 g3
        simp only [g1, g2, g3]
        split
        · rename_i zd hz
          simp only [hz]; rfl
        · rename_i hno
          split
          · rename_i zd hz; exact (hno zd hz).elim
          · rfl
      · rename_i hno
        split
        · rename_i i q z g1 g2 g3; exact (hno i q z g1 g2 g3).elim
        · rfl
    · rename_i hno
      split
      · rename_i e n f1 m f2 h1 h2 h3; exact (hno e n f1 m f2 h1 h2 h3).elim
      · rfl
  | buildSlice t n parts =>
    simp only [hop, Bool.not_eq_false'] at h
    simp only [h, adeepB_im h]
    unfold abuildSlice abuildV
    split
    · rename_i h1; simp only [h1]
    · rename_i e h1
      simp only [h1]
      split
      · rename_i i q z g1 g2 g3
        simp only [g1, g2, g3]
        split
        · split
          · rename_i xs f hx; simp only [hx]; rfl
          · rename_i hx; simp only [hx]
        · rfl
      · rename_i hno
        split
        · rename_i i q z g1 g2 g3; exact (hno i q z g1 g2 g3).elim
        · rfl
  | slice ty y lo hi mx => simp [hop] at h ⊢; simp only [h]
  | _ => simp [hop] at h ⊢

theorem aelems_two {h h' : Heap} (hs : Sub h h') {q : K} : ∀ (n : Nat) (l : List (Nat × TV)) (p : List q.den × Bool), aelems h q n l = some p → aelems h' q n l = some p
  | _, [], p, e => e
  | n, (i, t) :: r, p, e => by
    unfold aelems at e ⊢
    split at e
    · rename_i hc
      rw [if_pos hc]
      split at e
      · rename_i x f xs g h1 h2
        rw [of_two hs h1, aelems_two hs (n + 1) r _ h2]
        exact e
      · simp at e
    · simp at e

theorem amakeV_two {t : TypeId} {x y : Operand} (h1 : s.ev x = r.ev x) (h2 : s.ev y = r.ev y) (hs : Sub r.heap s.heap) : Two (fun _ k => amakeV P r t x y k) (fun _ k => amakeV P s t x y k) := by
  intro R k v e
  dsimp only at e ⊢
  unfold amakeV at e ⊢
  rw [h1, h2]
  generalize r.ev x = u1 at e ⊢
  generalize r.ev y = u2 at e ⊢
  split at e
  · split at e
    · split at e
      · rename_i zd hz
        rw [of_two hs hz]
        split at e
        · rename_i hc
          obtain ⟨g1, e⟩ := gd_some e
          obtain ⟨g2, e⟩ := gd_some e
          obtain ⟨g3, e⟩ := gd_some e
          exact ⟨_, e, fun _ _ => by simp only [if_pos hc, gd_pos g1, gd_pos g2, gd_pos g3]⟩
        · simp at e
      · simp at e
    · simp at e
  · simp at e

theorem abuildV_two {t : TypeId} {n : Nat} {parts : List (Nat × Operand)} (h : ∀ p ∈ parts, s.ev p.2 = r.ev p.2) (hs : Sub r.heap s.heap) : Two (fun _ k => abuildV P r t n parts k) (fun _ k => abuildV P s t n parts k) := by
  intro R k v e
  dsimp only at e ⊢
  unfold abuildV at e ⊢
  have hm : (parts.map fun p => (p.1, s.ev p.2)) = parts.map fun p => (p.1, r.ev p.2) := List.map_congr_left fun p hp => by rw [h p hp]
  rw [hm]
  split at e
  · simp at e
  · split at e
    · split at e
      · rename_i hc
        split at e
        · rename_i xs f hx
          exact ⟨_, e, fun _ _ => by simp only [if_pos hc, aelems_two hs _ _ _ hx]⟩
        · simp at e
      · simp at e
    · simp at e

theorem hat_sub {h h' : Heap} (hs : Sub h h') {l : Nat} {o : AObj} (e : hat h l = o) (hne : o ≠ .dead) : hat h' l = o := by
  rcases hs l with hd | hd
  · rw [e] at hd; exact absurd hd hne
  · rw [hd, e]

theorem decT_two {h h' : Heap} (hs : Sub h h') {k : Bool × K} {t : TV} {p : k.2.den × Bool} (e : decT h k t = some p) : decT h' k t = some p := by
  unfold decT at e ⊢
  split at e
  · split at e
    · exact of_two hs e
    · simp at e
  · split at e
    · simp at e
    · exact of_two hs e
  · simp at e
  · exact e

theorem zeroD_two {h h' : Heap} (hs : Sub h h') {t : TypeId} {k : Bool × K} {z : k.2.den} (e : zeroD P h t k = some z) : zeroD P h' t k = some z := by
  unfold zeroD at e ⊢
  split at e
  · split at e
    · split at e
      · rename_i hz; rw [decT_two hs hz]; exact e
      · simp at e
    · simp at e
  · simp at e

theorem alookup_two {h h' : Heap} (hs : Sub h h') {t : TypeId} {x i : TV} {ok : Bool} : Two (fun _ k => alookup P h t x i ok k) (fun _ k => alookup P h' t x i ok k) := by
  intro R k v e
  dsimp only at e ⊢
  unfold alookup at e ⊢
  split at e
  · rename_i kt vt l hu
    split at e
    · rename_i ki vi es fr ho
      rw [hat_sub hs ho (by simp)]
      split at e
      · rename_i hk
        split at e
        · rename_i xk f z h1 h2
          cases ok with
          | true => exact ⟨_, e, fun _ _ => by simp only [if_pos hk, decT_two hs h1, zeroD_two hs h2]⟩
          | false =>
            dsimp only at e
            split at e
            · rename_i tv htv
              exact ⟨_, e, fun _ _ => by simp only [if_pos hk, decT_two hs h1, zeroD_two hs h2, htv]⟩
            · simp at e
        · simp at e
      · simp at e
    · simp at e
  · simp at e

theorem aentry_two {h h' : Heap} (hs : Sub h h') {x : TV} : Two (fun _ k => aentry h x k) (fun _ k => aentry h' x k) := by
  intro R k v e
  dsimp only at e ⊢
  unfold aentry at e ⊢
  split at e
  · rename_i l
    split at e
    · rename_i ho
      rw [hat_sub hs ho (by simp)]
      exact ⟨_, e, fun _ _ => rfl⟩
    · simp at e
  · simp at e

theorem aappendV_two {c : Call} (hev : c.args.toList.map s.ev = c.args.toList.map r.ev) (hs : Sub r.heap s.heap) : Two (fun _ k => aappendV P r c k) (fun _ k => aappendV P s c k) := by
  intro R k v e
  dsimp only at e ⊢
  unfold aappendV at e ⊢
  split at e
  rotate_left
  · simp at e
  rename_i x y t t' ha ht
  rw [ha] at hev
  simp only [List.map_cons, List.map_nil, List.cons.injEq, and_true] at hev
  rw [hev.1, hev.2]
  generalize r.ev x = u1 at e ⊢
  generalize r.ev y = u2 at e ⊢
  split at e
  rotate_left
  · simp at e
  rename_i htt
  split at e
  rotate_left
  · simp at e
  rename_i e' b h1
  split at e
  rotate_left
  · simp at e
  rename_i q ys fr2 hb
  have hb' : b.bor s.heap = .dat (.sl q) ys fr2 := by
    cases b <;> simp only [AV.bor] at hb ⊢ <;> first | exact hb | skip
    all_goals
      split at hb
      · rename_i ho
        rw [hat_sub hs ho (by simp)]
        exact hb
      · simp at hb
  split at e
  rotate_left
  · simp at e
  rename_i i z h2 h3
  split at e
  rotate_left
  · simp at e
  rename_i hc
  obtain ⟨g1, e⟩ := gd_some e
  obtain ⟨g2, e⟩ := gd_some e
  exact ⟨_, e, fun _ _ => by simp only [if_pos htt, h1, hb', h2, h3, if_pos hc, gd_pos g1, gd_pos g2]⟩

theorem avc_two (hev : Like o r s) (hs : Sub r.heap s.heap) : Two (fun _ k => avc P Γ r o k) (fun _ k => avc P Γ s o k) := by
  intro R k x e
  dsimp only at e ⊢
  unfold avc at e ⊢
  cases hop : o.op with
  | call c =>
    simp only [hop] at e ⊢
    cases hc : c.callee with
    | builtin b =>
      cases b with
      | append =>
        simp only [hc] at e ⊢
        unfold Like at hev
        simp only [hop, Op.operands, Call.operands, hc] at hev
        exact aappendV_two (map_ev fun y hy => hev y (by simp [Array.mem_toList_iff.1 hy])) hs R k x e
      | _ => simp only [hc] at e ⊢; exact aval_two hev hs R k x e
    | value f =>
      simp only [hc] at e ⊢
      unfold Like at hev
      simp only [hop, Op.operands, Call.operands, hc] at hev
      have h1 : c.args.toList.map s.ev = c.args.toList.map r.ev := map_ev fun y hy => hev y (by simp [Array.mem_toList_iff.1 hy])
      rw [hev f (by simp), h1]
      generalize r.ev f = u at e ⊢
      split at e
      · split at e
        · exact acall_two hs R k x e
        · split at e
          · exact acall_two hs R k x e
          · simp at e
      · simp at e
    | invoke _ _ => simp [hc] at e
  | makeSlice t y z =>
    simp only [hop] at e ⊢
    unfold Like at hev
    simp only [hop, Op.operands] at hev
    exact amakeV_two (hev y (by simp)) (hev z (by simp)) hs R k x e
  | buildSlice t n parts =>
    simp only [hop] at e ⊢
    unfold Like at hev
    simp only [hop, Op.operands] at hev
    exact abuildV_two (fun p hp => hev p.2 (by simp only [List.mem_toArray, List.mem_map]; exact ⟨p, hp, rfl⟩)) hs R k x e
  | lookup t y i ok =>
    simp only [hop] at e ⊢
    unfold Like at hev
    simp only [hop, Op.operands] at hev
    rw [hev y (by simp), hev i (by simp)]
    exact alookup_two hs R k x e
  | entry y =>
    simp only [hop] at e ⊢
    unfold Like at hev
    simp only [hop, Op.operands] at hev
    rw [hev y (by simp)]
    exact aentry_two hs R k x e
  | _ => simp only [hop] at e ⊢; exact aval_two hev hs R k x e

theorem step_read (hn : isEff Γ o = false) {R : Type} {k : AS → Option R} {x : R} (e : astep P Γ r o k = some x) :
    ∃ t, k (r.put o.dst t) = some x ∧ ∀ s, Like o r s → Sub r.heap s.heap → ∀ (R' : Type) (k' : AS → Option R'), astep P Γ s o k' = k' (s.put o.dst t) := by
  rw [astep_avc hn] at e
  obtain ⟨t, h1, h2⟩ := avc_two (P := P) (Γ := Γ) (o := o) (r := r) (s := r) (fun _ _ => rfl) (Sub.refl _) R _ x e
  refine ⟨t, h1, fun s hl hs R' k' => ?_⟩
  obtain ⟨t', h3, h4⟩ := avc_two (P := P) (Γ := Γ) hl hs TV some t (h2 TV some)
  simp only [Option.some.injEq] at h3
  subst h3
  rw [astep_avc hn]
  exact h4 _ _

def EffTwo (P : Program) (Γ : Env) (r : AS) (o : Oper) {R : Type} (k : AS → Option R) (x : R) : Prop :=
  ∃ t h', k ({ r with heap := h' }.put o.dst t) = some x ∧ (isPush Γ o = true → ∃ δ, h' = r.heap ++ δ) ∧
    ∀ s : AS, Like o r s → s.heap = r.heap → ∀ (R' : Type) (k' : AS → Option R'), astep P Γ s o k' = k' ({ s with heap := h' }.put o.dst t)

theorem push_eq {o : AObj} : s.push o = { s with heap := s.heap ++ [(true, o)] } := rfl
theorem upd_eq {l : Nat} {o : AObj} : s.upd l o = { s with heap := s.heap.set l (true, o) } := rfl

theorem astore_two {t : TypeId} {d : AV} {v : TV} {R : Type} {k : AS → Option R} {x : R} (e : astore P r t d v k = some x) :
    ∃ h', k { r with heap := h' } = some x ∧ ∀ s : AS, s.heap = r.heap → ∀ (R' : Type) (k' : AS → Option R'), astore P s t d v k' = k' { s with heap := h' } := by
  unfold astore at e
  split at e
  · simp at e
  rename_i i hi
  split at e
  rotate_left
  · simp at e
  rename_i hc
  split at e
  · rename_i l off
    split at e
    · rename_i T cs hl
      split at e
      · rename_i hb
        refine ⟨_, e, fun s hs R' k' => ?_⟩
        simp only [astore, hi, if_pos hc, hs, hl, if_pos hb, upd_eq]
      · simp at e
    · simp at e
  · rename_i l j off
    split at e
    · rename_i T q xs fr hl
      split at e
      · rename_i hb
        obtain ⟨hg, e⟩ := gd_some e
        split at e
        · rename_i y f hy
          refine ⟨_, e, fun s hs R' k' => ?_⟩
          simp only [astore, hi, if_pos hc, hs, hl, if_pos hb, gd_pos hg, hy, upd_eq]
        · simp at e
      · simp at e
    · split at e
      rotate_left
      · simp at e
      rename_i nm p m p' hv hpl
      split at e
      rotate_left
      · simp at e
      rename_i hnp
      split at e
      rotate_left
      · simp at e
      rename_i T T' kh ki xs m' hob
      split at e
      rotate_left
      · simp at e
      rename_i hoff
      obtain ⟨hm, e1⟩ := gd_some e; clear e
      obtain ⟨hj, e⟩ := gd_some e1; clear e1
      refine ⟨_, e, fun s hs R' k' => ?_⟩
      simp only [astore, hi, if_pos hc, hs, hpl, if_pos hnp, hob, if_pos hoff, gd_pos hm, gd_pos hj, upd_eq]
  · rename_i p m j off
    split at e
    rotate_left
    · simp at e
    rename_i T T' kh ki xs hob
    split at e
    rotate_left
    · simp at e
    rename_i hb
    obtain ⟨hg, e⟩ := gd_some e
    split at e
    rotate_left
    · simp at e
    rename_i y f hy
    refine ⟨_, e, fun s hs R' k' => ?_⟩
    simp only [astore, hi, if_pos hc, hs, hob, if_pos hb, gd_pos hg, hy, upd_eq]
  · simp at e

theorem appendIn_two {d : Option Nat} {e' : TypeId} {q : K} {ys : List q.den} {nm p i : Nat} {R : Type} {k : AS → Option R} {x : R} (e : aappendIn P r d e' q ys nm p i k = some x) :
    ∃ t h', k ({ r with heap := h' }.put d t) = some x ∧ ∀ s : AS, s.heap = r.heap → ∀ (R' : Type) (k' : AS → Option R'), aappendIn P s d e' q ys nm p i k' = k' ({ s with heap := h' }.put d t) := by
  unfold aappendIn at e
  split at e
  rotate_left
  · simp at e
  rename_i p' hpl
  split at e
  rotate_left
  · simp at e
  rename_i hp
  split at e
  rotate_left
  · simp at e
  rename_i T T' kh ki xs inf z h1 h2 h3
  split at e
  rotate_left
  · simp at e
  rename_i hc
  split at e
  rotate_left
  · simp at e
  rename_i hq
  obtain ⟨g1, e⟩ := gd_some e
  obtain ⟨g2, e⟩ := gd_some e
  refine ⟨_, _, e, fun s hs R' k' => ?_⟩
  simp only [aappendIn, hs, hpl, if_pos hp, h1, h2, h3, if_pos hc, dif_pos hq, gd_pos g1, gd_pos g2]

theorem appendRow_two {d : Option Nat} {e' : TypeId} {a : AV} {b : Nat} {cs : List AV} {R : Type} {k : AS → Option R} {x : R} (e : aappendRow P r d e' a b cs k = some x) :
    ∃ t h', k ({ r with heap := h' }.put d t) = some x ∧ ∀ s : AS, s.heap = r.heap → ∀ (R' : Type) (k' : AS → Option R'), aappendRow P s d e' a b cs k' = k' ({ s with heap := h' }.put d t) := by
  unfold aappendRow at e
  split at e
  rotate_left
  · simp at e
  rename_i T' kh ki inf z h1 h2 h3
  split at e
  rotate_left
  · simp at e
  rename_i hc
  split at e
  rotate_left
  · simp at e
  rename_i xs T1 x1 ys T2 h4 h5
  obtain ⟨g1, e⟩ := gd_some e
  obtain ⟨g2, e⟩ := gd_some e
  refine ⟨_, _, e, fun s hs R' k' => ?_⟩
  simp only [aappendRow, hs, h1, h2, h3, if_pos hc, h4, h5, gd_pos g1, gd_pos g2]

theorem kill_heap {l : Option Nat} (h : s.heap = r.heap) : s.kill l = { s with heap := (r.kill l).heap } := by
  cases l with
  | none => simp [AS.kill, ← h]
  | some l => simp [AS.kill, upd_eq, h]

theorem eff_two (he : isEff Γ o = true) {R : Type} {k : AS → Option R} {x : R} (e : astep P Γ r o k = some x) : EffTwo P Γ r o k x := by
  unfold isEff at he
  unfold EffTwo Like
  cases hop : o.op with
  | alloc t =>
    simp only [astep, hop] at e
    split at e
    · rename_i cs hz
      refine ⟨.one (.ptr r.heap.length 0), r.heap ++ [(true, AObj.box t cs)], e, fun _ => ⟨_, rfl⟩, fun s _ hs R' k' => ?_⟩
      simp only [astep, hop, hz, push_eq, hs]
    · simp at e
  | box t y =>
    simp only [astep, hop] at e
    cases hu : r.ev y with
    | dat q z fr =>
      simp only [hu] at e
      refine ⟨_, r.heap, e, fun _ => ⟨[], by simp⟩, fun s hl hs R' k' => ?_⟩
      simp only [Op.operands] at hl
      have hy := hl y (by simp)
      simp only [astep, hop, hy, hu, ← hs]
    | one a =>
      simp only [hu] at e
      split at e
      · rename_i hz
        refine ⟨.one (.ptr r.heap.length 0), _, e, fun _ => ⟨_, rfl⟩, fun s hl hs R' k' => ?_⟩
        simp only [Op.operands] at hl
        have hy := hl y (by simp)
        simp only [astep, hop, hy, hu, if_pos hz, push_eq, hs]
      · simp at e
    | agg cs =>
      simp only [hu] at e
      split at e
      · rename_i hz
        refine ⟨.one (.ptr r.heap.length 0), _, e, fun _ => ⟨_, rfl⟩, fun s hl hs R' k' => ?_⟩
        simp only [Op.operands] at hl
        have hy := hl y (by simp)
        simp only [astep, hop, hy, hu, if_pos hz, push_eq, hs]
      · simp at e
    | tup cs =>
      simp only [hu] at e
      split at e
      · rename_i hz
        refine ⟨.one (.ptr r.heap.length 0), _, e, fun _ => ⟨_, rfl⟩, fun s hl hs R' k' => ?_⟩
        simp only [Op.operands] at hl
        have hy := hl y (by simp)
        simp only [astep, hop, hy, hu, if_pos hz, push_eq, hs]
      · simp at e
  | store t y z =>
    simp only [astep, hop] at e
    split at e
    · rename_i d hd
      obtain ⟨h', h1, h2⟩ := astore_two e
      refine ⟨.one .junk, h', h1, fun hp => by simp [isPush, hop] at hp, fun s hl hs R' k' => ?_⟩
      simp only [Op.operands] at hl
      have hy := hl y (by simp)
      have hz := hl z (by simp)
      simp only [astep, hop, hy, hz, hd]
      exact h2 s hs _ _
    · simp at e
  | makeSlice t y z =>
    have him : Γ.im o = false := by simpa [hop] using he
    simp only [astep, hop, amake, him, AS.made] at e
    split at e
    rotate_left
    · simp at e
    rename_i e' n fr1 m fr2 h1 h2 h3
    split at e
    rotate_left
    · simp at e
    rename_i i q zz h4 h5 h6
    split at e
    rotate_left
    · simp at e
    rename_i zd h7
    split at e
    rotate_left
    · simp at e
    rename_i hc
    obtain ⟨g1, e⟩ := gd_some e
    obtain ⟨g2, e⟩ := gd_some e
    obtain ⟨g3, e⟩ := gd_some e
    refine ⟨.one (.vf r.heap.length), _, e, fun _ => ⟨_, rfl⟩, fun s hl hs R' k' => ?_⟩
    simp only [Op.operands] at hl
    have hy := hl y (by simp)
    have hz := hl z (by simp)
    simp only [astep, hop, amake, him, AS.made, hy, hz, h1, h2, h3, h4, h5, h6, hs, h7, if_pos hc, gd_pos g1, gd_pos g2, gd_pos g3, push_eq]
  | buildSlice t n parts =>
    have him : Γ.im o = false := by simpa [hop] using he
    have hpb : ∀ s : AS, (∀ v ∈ (Op.buildSlice t n parts).operands, s.ev v = r.ev v) → adeepB P Γ s o t n parts.toList = adeepB P Γ r o t n parts.toList := fun s hl => adeepB_like fun p hp => by
      simp only [Op.operands] at hl
      exact hl p.2 (by simp only [List.mem_toArray, List.mem_map]; exact ⟨p, hp, rfl⟩)
    cases hdb : adeepB P Γ r o t n parts.toList with
    | some pr =>
      obtain ⟨e', cs⟩ := pr
      simp only [astep, hop, hdb] at e
      refine ⟨.one (.vw r.heap.length 0 1), _, e, fun _ => ⟨_, rfl⟩, fun s hl hs R' k' => ?_⟩
      simp only [astep, hop, hpb s hl, hdb, push_eq, hs]
    | none =>
    simp only [astep, hop, hdb, abuildSlice, him, AS.made] at e
    split at e
    · simp at e
    rename_i e' h1
    split at e
    rotate_left
    · simp at e
    rename_i i q z h2 h3 h4
    split at e
    rotate_left
    · simp at e
    rename_i hc
    split at e
    rotate_left
    · simp at e
    rename_i xs f h5
    refine ⟨.one (.vf r.heap.length), _, e, fun _ => ⟨_, rfl⟩, fun s hl hs R' k' => ?_⟩
    have hdb' := hpb s hl
    rw [hdb] at hdb'
    simp only [Op.operands] at hl
    have hm : (parts.toList.map fun p => (p.1, s.ev p.2)) = parts.toList.map fun p => (p.1, r.ev p.2) := List.map_congr_left fun p hp => by
      rw [hl p.2 (by simp only [List.mem_toArray, List.mem_map]; exact ⟨p, hp, rfl⟩)]
    simp only [astep, hop, hdb', abuildSlice, him, AS.made, h1, h2, h3, h4, if_pos hc, hm, hs, h5, push_eq]
  | call c =>
    simp only [hop] at he
    cases hc : c.callee with
    | value f =>
      cases f with
      | func g =>
        simp only [hc] at he
        simp only [Bool.and_eq_true, Bool.not_eq_true'] at he
        obtain ⟨he, him⟩ := he
        obtain ⟨d, hd⟩ := Option.isSome_iff_exists.1 he
        have hops : ∀ s : AS, (∀ v ∈ (Op.call c).operands, s.ev v = r.ev v) → c.args.toList.map s.ev = c.args.toList.map r.ev := fun s hl => by
          simp only [Op.operands, Call.operands, hc] at hl
          exact map_ev fun y hy => hl y (by simp [Array.mem_toList_iff.1 hy])
        have hrun : ∀ (s : AS) (R' : Type) (k' : AS → Option R'), astep P Γ s o k' = acallH d s (c.args.toList.map s.ev ++ []) (fun s' tv => k' (s'.put o.dst tv)) := fun s R' k' => by
          simp only [astep, hop, hc, AS.ev, hd, List.map_nil, him]
        rw [hrun] at e
        unfold acallH at e
        split at e
        · simp at e
        rename_i xx hx
        obtain ⟨y, hy, e⟩ := Option.bind_eq_some_iff.1 e
        refine ⟨_, _, e, fun hp => ?_, fun s hl hs R' k' => ?_⟩
        · simp only [isPush, hop, hc, hd] at hp
          exact d.pushes hp _ _ _ _
        · rw [hrun]
          unfold acallH
          rw [hops s hl, hs, hx]
          simp only [hy, Option.bind_some]
      | _ => simp [hc] at he
    | invoke _ _ => simp [hc] at he
    | builtin b =>
      cases b with
      | append =>
        have him : Γ.im o = false := by simpa [hc] using he
        simp only [astep, hop, hc, aappend, him] at e
        split at e
        rotate_left
        · simp at e
        rename_i y z t t' ha ht
        split at e
        rotate_left
        · simp at e
        rename_i htt
        split at e
        rotate_left
        · simp at e
        rename_i e' av bv h1 h2 h3
        have hops : ∀ s : AS, (∀ v ∈ (Op.call c).operands, s.ev v = r.ev v) → s.ev y = r.ev y ∧ s.ev z = r.ev z := fun s hl => by
          simp only [Op.operands, Call.operands, hc] at hl
          have hm : ∀ v ∈ c.args.toList, s.ev v = r.ev v := fun v hv => hl v (by simp [Array.mem_toList_iff.1 hv])
          rw [ha] at hm
          exact ⟨hm y (by simp), hm z (by simp)⟩
        have to : ∀ {q : K} {ys : List q.den} {f2 : Bool}, aappendTo P r o.dst e' q ys f2 av k = some x →
            ∃ t h', k ({ r with heap := h' }.put o.dst t) = some x ∧ (isPush Γ o = true → ∃ δ, h' = r.heap ++ δ) ∧
              ∀ s : AS, s.heap = r.heap → ∀ (R' : Type) (k' : AS → Option R'), aappendTo P s o.dst e' q ys f2 av k' = k' ({ s with heap := h' }.put o.dst t) := by
          intro q ys f2 e
          unfold aappendTo at e
          split at e
          rotate_left
          · simp at e
          rename_i xs f1 l i zz q1 q2 q3
          split at e
          rotate_left
          · simp at e
          rename_i hcc
          obtain ⟨g1, e⟩ := gd_some e
          obtain ⟨g2, e⟩ := gd_some e
          have hkr : r.kill l = { r with heap := (r.kill l).heap } := kill_heap rfl
          refine ⟨.one (.vf r.heap.length), (r.kill l).heap ++ [(true, AObj.vec e' q (xs ++ ys) (f1 && f2))], by rw [hkr] at e; exact e, fun hp => ?_, fun s hs R' k' => ?_⟩
          · simp only [isPush, hop, hc, ha] at hp
            split at hp
            · rename_i hcons
              simp only [List.cons.injEq] at hcons
              obtain ⟨rfl, _⟩ := hcons
              have : av = .nilsl := by
                have : r.ev (.const (.slice none 0 0)) = .one .nilsl := rfl
                rw [this] at h2; simpa using h2.symm
              subst this
              simp only [aowned, Option.some.injEq, Prod.mk.injEq] at q1
              obtain ⟨_, _, rfl⟩ := q1
              exact ⟨_, rfl⟩
            · simp at hp
          · simp only [aappendTo, hs, q1, q2, q3, if_pos hcc, gd_pos g1, gd_pos g2, push_eq, kill_heap (l := l) hs]
        have np : av ≠ .nilsl → (isPush Γ o = true → ∃ c, y = .const c) → isPush Γ o = true → False := fun hne _ hp => by
          simp only [isPush, hop, hc, ha] at hp
          split at hp
          · rename_i hcons
            simp only [List.cons.injEq] at hcons
            obtain ⟨rfl, _⟩ := hcons
            have : r.ev (.const (.slice none 0 0)) = .one .nilsl := rfl
            rw [this] at h2
            exact hne (by simpa using h2.symm)
          · simp at hp
        split at e
        · rename_i nm p m hw
          have hav := adeepW_inner hw
          split at e
          rotate_left
          · simp at e
          rename_i q ys f2 hb
          obtain ⟨t, h', k1, k3⟩ := appendIn_two e
          refine ⟨t, h', k1, fun hp => (np (by rw [hav]; simp) (fun _ => by
            simp only [isPush, hop, hc, ha] at hp
            split at hp
            · rename_i hcons
              simp only [List.cons.injEq] at hcons
              exact ⟨_, hcons.1⟩
            · simp at hp) hp).elim, fun s hl hs R' k' => ?_⟩
          obtain ⟨e1, e2⟩ := hops s hl
          simp only [astep, hop, hc, aappend, him, ha, ht, if_pos htt, h1, h2, h3, e1, e2, hs, hw, hb]
          exact k3 s hs R' k'
        · rename_i l cs hw
          split at e
          · simp at e
          rename_i hnc
          obtain ⟨t, h', k1, k3⟩ := appendRow_two e
          refine ⟨t, h', k1, fun hp => ?_, fun s hl hs R' k' => ?_⟩
          · simp only [isPush, hop, hc, ha] at hp
            split at hp
            · rename_i hcons
              simp only [List.cons.injEq] at hcons
              exact (hnc _ hcons.1).elim
            · simp at hp
          · obtain ⟨e1, e2⟩ := hops s hl
            simp only [astep, hop, hc, aappend, him, ha, ht, if_pos htt, h1, h2, h3, e1, e2, hs, hw]
            exact k3 s hs R' k'
        rename_i hw
        split at e
        · rename_i q ys f2 hb
          obtain ⟨t, h', k1, k2, k3⟩ := to e
          refine ⟨t, h', k1, k2, fun s hl hs R' k' => ?_⟩
          obtain ⟨e1, e2⟩ := hops s hl
          simp only [astep, hop, hc, aappend, him, ha, ht, if_pos htt, h1, h2, h3, e1, e2, hs, hw, hb]
          exact k3 s hs R' k'
        · rename_i hb
          split at e
          · rename_i q hq
            obtain ⟨t, h', k1, k2, k3⟩ := to e
            refine ⟨t, h', k1, k2, fun s hl hs R' k' => ?_⟩
            obtain ⟨e1, e2⟩ := hops s hl
            simp only [astep, hop, hc, aappend, him, ha, ht, if_pos htt, h1, h2, h3, e1, e2, hs, hw, hb, hq]
            exact k3 s hs R' k'
          · simp at e
        · simp at e
      | copy =>
        simp only [astep, hop, hc, acopy] at e
        split at e
        rotate_left
        · simp at e
        rename_i y z t tl ha ht
        split at e
        rotate_left
        · simp at e
        rename_i e' av bv h1 h2 h3
        have hops : ∀ s : AS, (∀ v ∈ (Op.call c).operands, s.ev v = r.ev v) → s.ev y = r.ev y ∧ s.ev z = r.ev z := fun s hl => by
          simp only [Op.operands, Call.operands, hc] at hl
          have hm : ∀ v ∈ c.args.toList, s.ev v = r.ev v := fun v hv => hl v (by simp [Array.mem_toList_iff.1 hv])
          rw [ha] at hm
          exact ⟨hm y (by simp), hm z (by simp)⟩
        have np : isPush Γ o = true → y = .const (.slice none 0 0) := fun hp => by simp [isPush, hop, hc] at hp
        have nn : isPush Γ o = true → av = .nilsl := fun hp => by
          have hy := np hp
          subst hy
          have : r.ev (.const (.slice none 0 0)) = .one .nilsl := rfl
          rw [this] at h2; simpa using h2.symm
        split at e
        rotate_left
        · simp at e
        rename_i q ys f2 hb
        split at e
        · rename_i l
          split at e
          rotate_left
          · simp at e
          rename_i T q' xs fr hl
          split at e
          rotate_left
          · simp at e
          rename_i hq
          unfold szOk at e
          split at e
          rotate_left
          · simp at e
          rename_i ii hii
          split at e
          rotate_left
          · simp at e
          rename_i hsz
          refine ⟨_, _, e, fun hp => by have := nn hp; simp at this, fun s hl' hs R' k' => ?_⟩
          obtain ⟨e1, e2⟩ := hops s hl'
          simp only [astep, hop, hc, acopy, ha, ht, h1, h2, h3, e1, e2, hs, hb, hl, dif_pos hq, szOk, hii, if_pos hsz, upd_eq]
        · rename_i l off len
          split at e
          rotate_left
          · simp at e
          rename_i T q' xs fr hl
          split at e
          rotate_left
          · simp at e
          rename_i hq
          unfold szOk at e
          split at e
          rotate_left
          · simp at e
          rename_i ii hii
          split at e
          rotate_left
          · simp at e
          rename_i hsz
          refine ⟨_, _, e, fun hp => by have := nn hp; simp at this, fun s hl' hs R' k' => ?_⟩
          obtain ⟨e1, e2⟩ := hops s hl'
          simp only [astep, hop, hc, acopy, ha, ht, h1, h2, h3, e1, e2, hs, hb, hl, dif_pos hq, szOk, hii, if_pos hsz, upd_eq]
        · simp at e
      | delete =>
        simp only [astep, hop, hc, adelete] at e
        split at e
        rotate_left
        · simp at e
        rename_i m i t rest ha ht
        split at e
        rotate_left
        · simp at e
        rename_i kt vt l h1 h2
        split at e
        rotate_left
        · simp at e
        rename_i ki vi es fr h3
        split at e
        rotate_left
        · simp at e
        rename_i h4
        split at e
        rotate_left
        · simp at e
        rename_i xk f h5
        refine ⟨_, _, e, fun hp => ?_, fun s hl hs R' k' => ?_⟩
        · simp [isPush, hop, hc] at hp
        · simp only [Op.operands, Call.operands, hc] at hl
          have hm : ∀ v ∈ c.args.toList, s.ev v = r.ev v := fun v hv => hl v (by simp [Array.mem_toList_iff.1 hv])
          rw [ha] at hm
          have e1 := hm m (by simp)
          have e2 := hm i (by simp)
          simp only [astep, hop, hc, adelete, ha, ht, h1, h2, e1, e2, hs, h3, if_pos h4, h5, upd_eq]
      | _ => simp [hc] at he
  | makeMap t rv =>
    cases rv with
    | some _ => simp [astep, hop, aval] at e
    | none =>
      simp only [astep, hop, amakeMap] at e
      split at e
      rotate_left
      · simp at e
      rename_i kt vt h1
      split at e
      rotate_left
      · simp at e
      rename_i kk vk h2 h3
      refine ⟨_, _, e, fun _ => ⟨_, rfl⟩, fun s hl hs R' k' => ?_⟩
      simp only [astep, hop, amakeMap, h1, h2, h3, push_eq, hs]
  | range t y =>
    simp only [astep, hop, arange] at e
    split at e
    rotate_left
    · simp at e
    rename_i kt vt m h1 h2
    split at e
    rotate_left
    · simp at e
    rename_i ki vi es fr h3
    refine ⟨_, _, e, fun hp => ?_, fun s hl hs R' k' => ?_⟩
    · simp [isPush, hop] at hp
    · simp only [Op.operands] at hl
      have e1 := hl y (by simp)
      simp only [astep, hop, arange, h1, h2, e1, hs, h3]
  | mapUpdate t m i y =>
    simp only [astep, hop, amapUpdate] at e
    split at e
    rotate_left
    · simp at e
    rename_i kt vt l h1 h2
    split at e
    rotate_left
    · simp at e
    rename_i ki vi es fr h3
    split at e
    rotate_left
    · simp at e
    rename_i h4
    split at e
    rotate_left
    · simp at e
    rename_i xk f1 yk f2 h5 h6
    refine ⟨_, _, e, fun hp => ?_, fun s hl hs R' k' => ?_⟩
    · simp [isPush, hop] at hp
    · simp only [Op.operands] at hl
      have e1 := hl m (by simp)
      have e2 := hl i (by simp)
      have e3 := hl y (by simp)
      simp only [astep, hop, amapUpdate, h1, h2, e1, e2, e3, hs, h3, if_pos h4, h5, h6, upd_eq]
  | mapEntry t m i =>
    simp only [astep, hop, amapEntry] at e
    split at e
    rotate_left
    · simp at e
    rename_i kt vt l h1 h2
    split at e
    rotate_left
    · simp at e
    rename_i ki vi es fr _ h3 h3'
    split at e
    rotate_left
    · simp at e
    rename_i h4
    split at e
    rotate_left
    · simp at e
    rename_i xk f1 h5
    refine ⟨_, _, e, fun hp => ?_, fun s hl hs R' k' => ?_⟩
    · simp [isPush, hop] at hp
    · simp only [Op.operands] at hl
      have e1 := hl m (by simp)
      have e2 := hl i (by simp)
      simp only [astep, hop, amapEntry, h1, h2, e1, e2, hs, h3, h3', if_pos h4, h5]
  | entryStore t m st y =>
    simp only [astep, hop, aentryStore] at e
    split at e
    rotate_left
    · simp at e
    rename_i l q h1 h2
    split at e
    rotate_left
    · simp at e
    rename_i m' ki vi xk f fr h3 h3'
    split at e
    rotate_left
    · simp at e
    rename_i h4
    split at e
    rotate_left
    · simp at e
    rename_i yk f1 h5
    refine ⟨_, _, e, fun hp => ?_, fun s hl hs R' k' => ?_⟩
    · simp [isPush, hop] at hp
    · simp only [Op.operands] at hl
      have e1 := hl m (by simp)
      have e2 := hl st (by simp)
      have e3 := hl y (by simp)
      simp only [astep, hop, aentryStore, h1, h2, e1, e2, e3, hs, h3, h3', if_pos h4, h5, upd_eq]
  | slice ty y lo hi mx =>
    have he' : Γ.im o = true := by simpa [isEff, hop] using he
    have hrun : ∀ (s : AS) (R' : Type) (k' : AS → Option R'), astep P Γ s o k' = aval P s o (fun tv => atrimV s o.dst tv k') := fun s R' k' => by simp only [astep, hop, he']
    rw [hrun] at e
    obtain ⟨t, h1, h2⟩ := aval_two (P := P) (o := o) (r := r) (s := r) (fun _ _ => rfl) (Sub.refl _) R _ x e
    unfold atrimV at h1
    split at h1
    rotate_left
    · simp at h1
    rename_i l off len
    split at h1
    rotate_left
    · simp at h1
    rename_i T q xs fr hob
    have hkr : r.kill (some l) = { r with heap := (r.kill (some l)).heap } := kill_heap rfl
    refine ⟨.one (.vf r.heap.length), (r.kill (some l)).heap ++ [(true, AObj.vec T q ((xs.drop off).take len) fr)], by rw [hkr] at h1; exact h1, fun hp => by simp [isPush, hop] at hp, fun s hl hs R' k' => ?_⟩
    rw [hrun]
    obtain ⟨t', h3, h4⟩ := aval_two (P := P) (o := o) (r := r) (s := s) (by unfold Like; rw [hop]; exact hl) (by rw [hs]; exact Sub.refl _) TV some _ (h2 TV some)
    simp only [Option.some.injEq] at h3
    subst h3
    refine (h4 _ _).trans ?_
    simp only [atrimV, hs, hob, push_eq, kill_heap (l := some l) hs]
  | _ => simp [hop] at he
end
end Go.Proofs.AM
end

section
namespace Go.Proofs.AM
open Go Go.RowKit

def anorm : TV → TV
  | .one (.dat .bool b _) => litTV b
  | t => t

def anormAt (s : AS) : Option Nat → AS
  | none => s
  | some d => match s.tmps[d]? with
    | some t => { s with tmps := s.tmps.set d (anorm t) }
    | none => s

theorem anormAt_put (s : AS) (d : Option Nat) (t : TV) : anormAt (s.put d t) d = s.put d (anorm t) := by
  cases d with
  | none => rfl
  | some d =>
    simp only [AS.put, anormAt]
    by_cases hl : d < s.tmps.length
    · simp [hl]
    · simp [hl, List.set_eq_of_length_le (Nat.le_of_not_lt hl)]

theorem anorm_R {w : World} {N Nf : Nat → Prop} {β : List Bl} {t : TV} {v : Value} (h : t.R w N Nf β v) : (anorm t).R w N Nf β v := by
  unfold anorm
  split
  · rename_i b f
    have : v = .bool b := by simpa [TV.R, AV.R, K.rd] using h
    subst this
    simp [litTV, TV.R, AV.R, K.rd]
  · exact h

theorem anorm_lit {t : TV} {b f : Bool} (e : anorm t = .one (.dat .bool b f)) : f = true := by
  unfold anorm at e
  split at e
  · simp [litTV] at e; exact e.2
  · rename_i hne
    exact absurd e (hne b f)

def dirs (o : Oper) : List Nat := (o.after.toList.filter fun e => Region.binds .any e).map Edge.on

inductive Reach (ops : Array Oper) : Nat → Nat → Prop
  | one {i j : Nat} {o : Oper} : ops[i]? = some o → j ∈ dirs o → Reach ops j i
  | step {i j m : Nat} {o : Oper} : Reach ops m j → ops[i]? = some o → j ∈ dirs o → Reach ops m i

def dd : List Nat → List Nat
  | [] => []
  | x :: l => if (dd l).contains x then dd l else x :: dd l

theorem dd_mem {x : Nat} : ∀ {l : List Nat}, x ∈ dd l → x ∈ l
  | [], h => h
  | y :: l, h => by
    unfold dd at h
    split at h
    · exact List.mem_cons_of_mem _ (dd_mem h)
    · rcases List.mem_cons.1 h with rfl | h
      · simp
      · exact List.mem_cons_of_mem _ (dd_mem h)

def cloTab : List Oper → List (List Nat) → List (List Nat)
  | [], tab => tab
  | o :: l, tab => cloTab l (tab ++ [dd (dirs o ++ (dirs o).flatMap fun j => tab.getD j [])])

theorem cloTab_ok {ops : Array Oper} : ∀ (l : List Oper) (tab : List (List Nat)), ops.toList.drop tab.length = l →
    (∀ i j, j ∈ tab.getD i [] → Reach ops j i) → ∀ i j, j ∈ (cloTab l tab).getD i [] → Reach ops j i
  | [], tab, _, h, i, j, hm => h i j hm
  | o :: l, tab, hl, h, i, j, hm => by
    have ho : ops[tab.length]? = some o := by
      have : (ops.toList.drop tab.length)[0]? = some o := by rw [hl]; rfl
      simpa using this
    refine cloTab_ok l _ ?_ ?_ i j hm
    · have : (ops.toList.drop tab.length).drop 1 = l := by rw [hl]; rfl
      rw [List.drop_drop] at this
      simpa using this
    · intro i j hm
      by_cases hi : i < tab.length
      · rw [List.getD_eq_getElem?_getD, List.getElem?_append_left hi, ← List.getD_eq_getElem?_getD] at hm
        exact h i j hm
      · rw [List.getD_eq_getElem?_getD, List.getElem?_append_right (by omega)] at hm
        by_cases hi' : i = tab.length
        · subst hi'
          simp only [Nat.sub_self, List.getElem?_cons_zero, Option.getD_some] at hm
          rcases List.mem_append.1 (dd_mem hm) with hm | hm
          · exact .one ho hm
          · obtain ⟨q, hq, hm⟩ := List.mem_flatMap.1 hm
            exact .step (h q j hm) ho hq
        · have : i - tab.length ≠ 0 := by omega
          obtain ⟨q, hq⟩ : ∃ q, i - tab.length = q + 1 := ⟨i - tab.length - 1, by omega⟩
          rw [hq] at hm
          simp at hm

def effAt (Γ : Env) (l : List Oper) (j : Nat) : Bool := match l[j]? with
  | some o => isEff Γ o
  | none => false
def pushAt (Γ : Env) (l : List Oper) (j : Nat) : Bool := match l[j]? with
  | some o => isPush Γ o
  | none => false

def drawOK (Γ : Env) (l : List Oper) (ops : Array Oper) (tab : List (List Nat)) : Bool :=
  (List.range l.length).all fun i => match l[i]? with
    | none => false
    | some o =>
      (dirs o).all (fun j => decide (j < i)) &&
      (match o.guard with
        | none => true
        | some (g, _) => decide (g < i)) &&
      (List.range l.length).all fun j => match l[j]? with
        | none => false
        | some p =>
          (match p.dst with
            | none => true
            | some d => (i == j || o.dst != some d) && (!(o.looksAt ops).contains d || i == j || (tab.getD i []).contains j || (tab.getD j []).contains i)) &&
          (!(isEff Γ o && isEff Γ p && decide (i < j)) || (tab.getD j []).contains i)

def loOf (Γ : Env) (l : List Oper) : List Nat → Nat
  | [] => 0
  | j :: t => if effAt Γ l j && decide (loOf Γ l t ≤ j) then j + 1 else loOf Γ l t

def hidOf (Γ : Env) (l : List Oper) (tab : List (List Nat)) (i lo : Nat) : Bool :=
  (List.range l.length).any fun j => effAt Γ l j && decide (lo ≤ j) && !pushAt Γ l j && !(tab.getD j []).contains i && j != i

def drawInfo (Γ : Env) (l : List Oper) (tab : List (List Nat)) : List Oper → Nat → List (Oper × Nat × Bool)
  | [], _ => []
  | o :: r, i => (o, loOf Γ l (tab.getD i []), hidOf Γ l tab i (loOf Γ l (tab.getD i []))) :: drawInfo Γ l tab r (i + 1)

structure DrawP (Γ : Env) (ops : Array Oper) : Prop where
  dir : ∀ (i : Nat) (o : Oper), ops[i]? = some o → ∀ j ∈ dirs o, j < i
  gd : ∀ (i : Nat) (o : Oper) (g : Nat) (b : Bool), ops[i]? = some o → o.guard = some (g, b) → g < i
  dst : ∀ (i j : Nat) (o p : Oper) (d : Nat), ops[i]? = some o → ops[j]? = some p → o.dst = some d → p.dst = some d → i = j
  look : ∀ (i j : Nat) (o p : Oper) (d : Nat), ops[i]? = some o → ops[j]? = some p → p.dst = some d → d ∈ o.looksAt ops → i = j ∨ Reach ops j i ∨ Reach ops i j
  eff : ∀ (i j : Nat) (o p : Oper), ops[i]? = some o → ops[j]? = some p → isEff Γ o = true → isEff Γ p = true → i < j → Reach ops i j

theorem drawOK_ok {Γ : Env} {ops : Array Oper} {tab : List (List Nat)} (ht : ∀ i j, j ∈ tab.getD i [] → Reach ops j i) (h : drawOK Γ ops.toList ops tab = true) : DrawP Γ ops := by
  unfold drawOK at h
  simp only [List.all_eq_true, List.mem_range] at h
  have key : ∀ (i : Nat) (o : Oper), ops[i]? = some o → _ := fun i o ho => by
    have hi : i < ops.toList.length := by have := (Array.getElem?_eq_some_iff.1 ho).1; simpa using this
    have := h i hi
    have ho' : ops.toList[i]? = some o := by simpa using ho
    rw [ho'] at this
    exact this
  have key2 : ∀ (i j : Nat) (o p : Oper), ops[i]? = some o → ops[j]? = some p → ((match p.dst with
            | none => true
            | some d => (i == j || o.dst != some d) && (!(o.looksAt ops).contains d || i == j || (tab.getD i []).contains j || (tab.getD j []).contains i)) &&
          (!(isEff Γ o && isEff Γ p && decide (i < j)) || (tab.getD j []).contains i)) = true := fun i j o p ho hp => by
    have := key i o ho
    simp only [Bool.and_eq_true, List.all_eq_true, List.mem_range] at this
    have hj : j < ops.toList.length := by have := (Array.getElem?_eq_some_iff.1 hp).1; simpa using this
    have := this.2 j hj
    have hp' : ops.toList[j]? = some p := by simpa using hp
    rw [hp'] at this
    simpa using this
  refine ⟨fun i o ho j hj => ?_, fun i o g b ho hg => ?_, fun i j o p d ho hp h1 h2 => ?_, fun i j o p d ho hp h1 h2 => ?_, fun i j o p ho hp h1 h2 h3 => ?_⟩
  · have := key i o ho
    simp only [Bool.and_eq_true, List.all_eq_true] at this
    simpa using this.1.1 j hj
  · have := key i o ho
    simp only [Bool.and_eq_true, hg] at this
    simpa using this.1.2
  · have := key2 i j o p ho hp
    simp only [h2, h1, Bool.and_eq_true, Bool.or_eq_true] at this
    simpa using this.1.1
  · have := key2 i j o p ho hp
    simp only [h1, Bool.and_eq_true, Bool.or_eq_true] at this
    rcases this.1.2 with ((hx | hx) | hx) | hx
    · have : (o.looksAt ops).contains d = true := by simpa using h2
      rw [this] at hx; simp at hx
    · left; simpa using hx
    · right; left; exact ht _ _ (by simpa using hx)
    · right; right; exact ht _ _ (by simpa using hx)
  · have := key2 i j o p ho hp
    simp only [h1, h2, h3, Bool.and_eq_true, Bool.or_eq_true] at this
    rcases this.2 with hx | hx
    · simp at hx
    · exact ht _ _ (by simpa using hx)

theorem loOf_ok {Γ : Env} {l : List Oper} : ∀ {t : List Nat}, loOf Γ l t = 0 ∨ ∃ e ∈ t, loOf Γ l t = e + 1 ∧ effAt Γ l e = true
  | [] => .inl rfl
  | j :: t => by
    unfold loOf
    split
    · rename_i h
      simp at h
      exact .inr ⟨j, by simp, rfl, h.1⟩
    · rcases loOf_ok (l := l) (t := t) with h | ⟨e, he, h⟩
      · exact .inl h
      · exact .inr ⟨e, by simp [he], h⟩

structure InfoP (Γ : Env) (ops : Array Oper) (i lo : Nat) (hid : Bool) : Prop where
  low : lo = 0 ∨ ∃ (e : Nat) (p : Oper), lo = e + 1 ∧ ops[e]? = some p ∧ isEff Γ p = true ∧ Reach ops e i
  hide : hid = false → ∀ (j : Nat) (p : Oper), ops[j]? = some p → isEff Γ p = true → lo ≤ j → isPush Γ p = true ∨ Reach ops i j ∨ j = i

theorem drawInfo_len {Γ : Env} {l : List Oper} {tab : List (List Nat)} : ∀ (r : List Oper) (i : Nat), (drawInfo Γ l tab r i).length = r.length
  | [], _ => rfl
  | o :: r, i => by simp [drawInfo, drawInfo_len r]

theorem drawInfo_ok {Γ : Env} {ops : Array Oper} {tab : List (List Nat)} (ht : ∀ i j, j ∈ tab.getD i [] → Reach ops j i) : ∀ (r : List Oper) (i : Nat), ops.toList.drop i = r →
    ∀ (j : Nat) (o : Oper) (lo : Nat) (hid : Bool), (drawInfo Γ ops.toList tab r i)[j]? = some (o, lo, hid) → ops[i + j]? = some o ∧ InfoP Γ ops (i + j) lo hid
  | [], i, _, j, o, lo, hid, h => by simp [drawInfo] at h
  | q :: r, i, hr, 0, o, lo, hid, h => by
    have ho : ops[i]? = some q := by
      have : (ops.toList.drop i)[0]? = some q := by rw [hr]; rfl
      simpa using this
    simp only [drawInfo, List.getElem?_cons_zero, Option.some.injEq, Prod.mk.injEq] at h
    obtain ⟨rfl, rfl, rfl⟩ := h
    refine ⟨ho, ?_, fun hh j p hp he hl => ?_⟩
    · rcases loOf_ok (Γ := Γ) (l := ops.toList) (t := tab.getD i []) with h | ⟨e, he, h, hf⟩
      · exact .inl h
      · unfold effAt at hf
        split at hf
        · rename_i p hp
          exact .inr ⟨e, p, h, by simpa using hp, hf, ht _ _ he⟩
        · simp at hf
    · unfold hidOf at hh
      rw [List.any_eq_false] at hh
      have hj : j < ops.toList.length := by have := (Array.getElem?_eq_some_iff.1 hp).1; simpa using this
      have := hh j (List.mem_range.2 hj)
      have hp' : ops.toList[j]? = some p := by simpa using hp
      simp only [effAt, pushAt, hp', he] at this
      simp only [Nat.add_zero] at hl ⊢
      by_cases h1 : isPush Γ p = true
      · exact .inl h1
      · right
        by_cases h2 : j = i
        · exact .inr h2
        · left
          have h1' : isPush Γ p = false := by simpa using h1
          simp only [h1', hl, decide_true, Bool.and_true, Bool.not_false, Bool.true_and] at this
          have : (tab.getD j []).contains i = true := by
            by_cases hc : (tab.getD j []).contains i = true
            · exact hc
            · exfalso; apply this
              have hc' : (tab.getD j []).contains i = false := by simpa using hc
              rw [hc']; simpa using h2
          exact ht _ _ (by simpa using this)
  | q :: r, i, hr, j + 1, o, lo, hid, h => by
    have hr' : ops.toList.drop (i + 1) = r := by
      have : (ops.toList.drop i).drop 1 = r := by rw [hr]; rfl
      rwa [List.drop_drop] at this
    have := drawInfo_ok ht r (i + 1) hr' j o lo hid h
    rwa [show i + 1 + j = i + (j + 1) by omega] at this

section
variable {R : Type}

def locSt (l : List Oper) (o : Oper) : Bool := match o.op with
  | .store _ (.tmp d) _ => o.guard.isNone && l.any fun p => p.dst == some d && (match p.op with
    | .alloc _ | .box _ _ => true
    | _ => false)
  | _ => false

def calmR (Γ : Env) (l : List Oper) : Bool := l.all fun o => !isEff Γ o || isPush Γ o || locSt l o

def apTouch (h : Heap) (a b : AV) : List Nat :=
  (match a with
  | .vf l => [l]
  | .vw l _ _ => [l]
  | .dv nm p _ => [nm, p]
  | .hv nm _ _ => match hpool h nm with
    | some p => [nm, p]
    | none => [nm]
  | _ => []) ++
  (match b with
  | .vw l 0 1 => match hat h l with
    | .box _ cs => l :: cs.filterMap (fun | .vf m => some m | _ => none)
    | _ => []
  | _ => [])

def AV.isJunk : AV → Bool
  | .junk => true
  | _ => false

def touchX (Γ : Env) (s : AS) (o : Oper) : Option (List Nat) := match o.op with
  | .store _ x _ => match s.ev x with
    | .one (.ptr l _) => some [l]
    | .one (.vp l _ _) => match hpool s.heap l with
      | some p => some [l, p]
      | none => some [l]
    | .one (.dp p _ _ _) => some [p]
    | _ => none
  | .mapEntry _ m _ => match s.ev m with
    | .one (.mp l) => some [l]
    | _ => none
  | .entryStore _ m st _ => match s.ev m, s.ev st with
    | .one (.mp l), .one (.st q) => some [l, q]
    | .one (.mp l), _ => some [l]
    | _, _ => none
  | .call c => if Γ.im o = true then none else match c.callee with
    | .value (.func g) => match Γ.hd g with
      | some d => match d.touch with
        | some f => some (f s.heap (c.args.toList.map s.ev ++ []))
        | none => none
      | none => none
    | .builtin .append => match c.args.toList with
      | [x, y] => match s.ev x, s.ev y with
        | .one a, .one b => if a.isJunk = true then none else some (apTouch s.heap a b)
        | _, _ => none
      | _ => none
    | _ => none
  | _ => none

def keepsT (Γ : Env) (n0 : Nat) (T : List Nat) (s : AS) (o : Oper) : Bool := o.guard.isNone && (match touchX Γ s o with
  | some L => L.all fun l => decide (n0 ≤ l) || T.contains l
  | none => false)

def killL (h : Heap) : List Nat → Heap
  | [] => h
  | l :: T => (killL h T).set l (true, .dead)

def preV (P : Program) (s : AS) (o : Oper) : TV := match o.op with
  | .move x | .assign x | .nilCheck x => s.ev x
  | .fieldAddr t x i => match afields P t i, s.ev x with
    | some f, .one a => (afieldAddr P f a some).getD (.one .junk)
    | _, _ => .one .junk
  | .indexAddr _ x _ => match s.ev x with
    | .one (.vf l) => .one (.vp l 0 0)
    | .one (.vw l _ _) => .one (.vp l 0 0)
    | .one (.hv l _ _) => .one (.vp l 0 0)
    | .one (.hw l _ _ _) => .one (.vp l 0 0)
    | .one (.dv _ p m) => .one (.dp p m 0 0)
    | _ => .one .junk
  | .load t x => match s.ev x with
    | .one (.ptr l off) => (aload P s.heap t (.ptr l off) some).getD (.one .junk)
    | .one (.vp l _ _) => match hpool s.heap l with
      | some p => .one (.dv l p 0)
      | none => .one .junk
    | _ => .one .junk
  | _ => .one .junk

def apEff (Γ : Env) (o : Oper) : Bool := !isPush Γ o && (match o.op with
  | .call c => match c.callee with
    | .builtin .append => !Γ.im o
    | _ => false
  | _ => false)

def preT (P : Program) (Γ : Env) : List Oper → AS → List Nat → Option (List Nat)
  | [], _, T => some T
  | o :: l, s, T => match touchX Γ s o with
    | some L => preT P Γ l (s.put o.dst (preV P s o)) (L ++ T)
    | none => if apEff Γ o = true then none else preT P Γ l (s.put o.dst (preV P s o)) T

def adrs (P : Program) (Γ : Env) (ops : Array Oper) (cm : Bool) (n0 : Nat) (T : List Nat) (V : Heap) : List (Oper × Nat × Bool) → List Heap → AS → (AS → Option R) → Option R
  | [], _, s, k => k s
  | (o, lo, hid) :: l, Hs, s, k =>
    if isEff Γ o = true then (if (!cm || isPush Γ o || keepsT Γ n0 T s o) = true then aop P Γ ops o s fun s' => adrs P Γ ops cm n0 T V l (Hs ++ [s'.heap]) (anormAt s' o.dst) k else none)
    else aop P Γ ops o { s with heap := if hid = true then V else Hs.getD lo [] } fun s' => adrs P Γ ops cm n0 T V l (Hs ++ [s.heap]) (anormAt { s' with heap := s.heap } o.dst) k

def apartOp (o : Oper) : Bool := match o.op with
  | .move _ | .assign _ | .pick _ _ _ | .nilCheck _ | .fieldAddr _ _ _ | .binOp _ _ _ _ _ | .unOp _ _ _ | .extract _ _ | .field _ _ _ | .build _ _ | .makeFunc _ _ _ | .makeInterface _ _ => true
  | _ => false

def coverOp (Γ : Env) (o : Oper) : Bool := match o.op with
  | .store _ _ _ | .mapEntry _ _ _ | .entryStore _ _ _ _ => true
  | .call c => match c.callee with
    | .value (.func g) => match Γ.hd g with
      | some d => d.touch.isSome
      | none => false
    | .builtin .append => true
    | _ => false
  | _ => false

def hidAny (Γ : Env) (l : List (Oper × Nat × Bool)) : Bool := (l.any fun x => x.2.2 && !isEff Γ x.1 && !apartOp x.1) && l.all fun x => !isEff Γ x.1 || isPush Γ x.1 || coverOp Γ x.1

def adraw (P : Program) (Γ : Env) (ops : Array Oper) (s : AS) (k : AS → Option R) : Option R :=
  let l := ops.toList
  let tab := cloTab l []
  if drawOK Γ l ops tab = true then
    if calmR Γ l = true then adrs P Γ ops true s.heap.length [] s.heap (drawInfo Γ l tab l 0) [s.heap] s k
    else match (if hidAny Γ (drawInfo Γ l tab l 0) = true then preT P Γ l s [] else none) with
      | some T => adrs P Γ ops true s.heap.length T (killL s.heap T) (drawInfo Γ l tab l 0) [s.heap] s k
      | none => adrs P Γ ops false s.heap.length [] [] (drawInfo Γ l tab l 0) [s.heap] s k
  else none
end

theorem astore_touch {P : Program} {Γ : Env} {s s1 : AS} {o : Oper} {t : TypeId} {x y : Operand} (hop : o.op = .store t x y) {L : List Nat} (hL : touchX Γ s o = some L) {d : AV} (hd : s.ev x = .one d) {k : AS → Option AS} {s' : AS} (e : astore P s t d (s.ev y) k = some s')
    (hk : ∀ q, k q = some s' → s'.heap = q.heap) : s.heap.length ≤ s'.heap.length ∧ ∀ l, l ∉ L → s'.heap[l]? = s.heap[l]? := by
  have upd : ∀ (l : Nat) (ob : AObj), l ∈ L → k (s.upd l ob) = some s' → s.heap.length ≤ s'.heap.length ∧ ∀ m, m ∉ L → s'.heap[m]? = s.heap[m]? := by
    intro l ob hl e
    rw [hk _ e]
    refine ⟨by simp [AS.upd], fun m hm => ?_⟩
    simp only [AS.upd]
    rw [List.getElem?_set_ne (fun e => hm (by rw [← e]; exact hl))]
  simp only [touchX, hop, hd] at hL
  unfold astore at e
  split at e
  · simp at e
  split at e
  rotate_left
  · simp at e
  split at e
  · rename_i l off
    simp only [Option.some.injEq] at hL
    subst hL
    split at e
    · split at e
      · exact upd l _ (by simp) e
      · simp at e
    · simp at e
  · rename_i l j off
    dsimp only at hL
    split at e
    · rename_i hob
      have hl : l ∈ L := by
        split at hL <;> (simp only [Option.some.injEq] at hL; subst hL; simp)
      split at e
      · obtain ⟨_, e⟩ := gd_some e
        split at e
        · exact upd l _ hl e
        · simp at e
      · simp at e
    · split at e
      rotate_left
      · simp at e
      rename_i nm p m p' _ hpl
      rw [hpl] at hL
      simp only [Option.some.injEq] at hL
      subst hL
      split at e
      rotate_left
      · simp at e
      rename_i hnp
      split at e
      rotate_left
      · simp at e
      split at e
      rotate_left
      · simp at e
      obtain ⟨_, e1⟩ := gd_some e
      obtain ⟨_, e2⟩ := gd_some e1
      exact upd p _ (by rw [hnp.2]; simp) e2
  · rename_i p m j off
    simp only [Option.some.injEq] at hL
    subst hL
    split at e
    rotate_left
    · simp at e
    split at e
    rotate_left
    · simp at e
    obtain ⟨_, e⟩ := gd_some e
    split at e
    · exact upd p _ (by simp) e
    · simp at e
  · simp at e

theorem append_touch {P : Program} {s s' : AS} {o : Oper} {c : Call} {x y : Operand} (ha : c.args.toList = [x, y]) {a b : AV} (hx : s.ev x = .one a) (hy : s.ev y = .one b) (e : aappend P s o c some = some s') :
    s.heap.length ≤ s'.heap.length ∧ ∀ l, l < s.heap.length → l ∉ apTouch s.heap a b → s'.heap[l]? = s.heap[l]? := by
  have hput : ∀ (q : AS) (d : Option Nat) (tv : TV), (q.put d tv).heap = q.heap := fun q d tv => by cases d <;> rfl
  unfold aappend at e
  split at e
  rotate_left
  · simp at e
  rename_i x' y' t t' ha' ht
  rw [ha] at ha'
  simp only [List.cons.injEq, and_true] at ha'
  obtain ⟨rfl, rfl⟩ := ha'
  split at e
  rotate_left
  · simp at e
  split at e
  rotate_left
  · simp at e
  rename_i e' av bv h1 h2 h3
  rw [hx] at h2
  rw [hy] at h3
  cases h2
  cases h3
  have to : ∀ {q : K} {ys : List q.den} {f2 : Bool}, aappendTo P s o.dst e' q ys f2 a some = some s' → s.heap.length ≤ s'.heap.length ∧ ∀ l, l < s.heap.length → l ∉ apTouch s.heap a b → s'.heap[l]? = s.heap[l]? := by
    intro q ys f2 e
    unfold aappendTo at e
    split at e
    rotate_left
    · simp at e
    rename_i xs f1 l i zz q1 q2 q3
    split at e
    rotate_left
    · simp at e
    obtain ⟨_, e⟩ := gd_some e
    obtain ⟨_, e⟩ := gd_some e
    simp only [Option.some.injEq] at e
    subst e
    rw [hput]
    have hl : ∀ m, l = some m → m ∈ apTouch s.heap a b := by
      intro m hm
      subst hm
      unfold aowned at q1
      split at q1
      · simp at q1
      · split at q1
        · split at q1
          · split at q1
            · simp only [Option.some.injEq, Prod.mk.injEq] at q1; simp [apTouch, q1.2.2]
            · simp at q1
          · simp at q1
        · simp at q1
      · split at q1
        · split at q1
          · split at q1
            · simp only [Option.some.injEq, Prod.mk.injEq] at q1; simp [apTouch, q1.2.2]
            · simp at q1
          · simp at q1
        · simp at q1
      · simp at q1
    have hlen : (s.kill l).heap.length = s.heap.length := by cases l <;> simp [AS.kill, AS.upd]
    refine ⟨by simp [AS.push, hlen], fun m hm hn => ?_⟩
    simp only [AS.push]
    rw [List.getElem?_append_left (by rw [hlen]; exact hm)]
    cases l with
    | none => rfl
    | some l' =>
      simp only [AS.kill, AS.upd]
      rw [List.getElem?_set_ne (fun e => hn (by rw [← e]; exact hl l' rfl))]
  split at e
  · rename_i nm p m hw
    have hav := adeepW_inner hw
    subst hav
    split at e
    rotate_left
    · simp at e
    unfold aappendIn at e
    split at e
    rotate_left
    · simp at e
    split at e
    rotate_left
    · simp at e
    split at e
    rotate_left
    · simp at e
    split at e
    rotate_left
    · simp at e
    split at e
    rotate_left
    · simp at e
    obtain ⟨_, e⟩ := gd_some e
    obtain ⟨_, e⟩ := gd_some e
    simp only [Option.some.injEq] at e
    subst e
    rw [hput]
    refine ⟨by simp [hkill_len], fun l hl hn => ?_⟩
    have n1 : nm ≠ l := fun e => hn (by simp [apTouch, e])
    have n2 : l ∉ [p] := fun e => hn (by simp at e; simp [apTouch, e])
    show (_ : Heap)[l]? = _
    rw [List.getElem?_set_ne n1, List.getElem?_append_left (by rw [hkill_len]; exact hl), hkill_ne _ _ _ n2]
  · rename_i lb cs hw
    obtain ⟨rfl, hob⟩ := adeepW_row hw
    split at e
    · simp at e
    unfold aappendRow at e
    split at e
    rotate_left
    · simp at e
    split at e
    rotate_left
    · simp at e
    split at e
    rotate_left
    · simp at e
    rename_i xs T1 x1 ys T2 hX hE
    obtain ⟨_, e⟩ := gd_some e
    obtain ⟨_, e⟩ := gd_some e
    simp only [Option.some.injEq] at e
    subst e
    rw [hput]
    refine ⟨by simp [hkill_len], fun l hl hn => ?_⟩
    have hT : l ∉ lb :: (T2 ++ T1) := by
      intro hm
      refine hn ?_
      rcases List.mem_cons.1 hm with rfl | hm
      · simp [apTouch, hob]
      rcases List.mem_append.1 hm with hm | hm
      · unfold adeepE at hE
        split at hE
        · simp only [Option.some.injEq, Prod.mk.injEq] at hE; rw [← hE.2.2] at hm; simp at hm
        · rename_i y f m hk hd
          split at hE
          rotate_left
          · simp at hE
          split at hE
          rotate_left
          · simp at hE
          split at hE
          rotate_left
          · simp at hE
          simp only [Option.some.injEq, Prod.mk.injEq] at hE
          rw [← hE.2.2] at hm
          simp only [List.mem_singleton] at hm
          subst hm
          have : AV.vf l ∈ cs := by
            have : ∀ n, cs.drop n = [AV.vf l] → AV.vf l ∈ cs := fun n hn => List.mem_of_mem_drop (i := n) (by rw [hn]; simp)
            exact this _ hd
          simp only [apTouch, hob, List.mem_append, List.mem_cons, List.mem_filterMap]
          exact .inr (.inr ⟨_, this, rfl⟩)
        · simp at hE
      · unfold adeepX at hX
        split at hX
        · simp only [Option.some.injEq, Prod.mk.injEq] at hX; rw [← hX.2] at hm; simp at hm
        · rename_i nm n sz
          split at hX
          rotate_left
          · simp at hX
          rename_i p hpl
          split at hX
          rotate_left
          · simp at hX
          split at hX
          rotate_left
          · simp at hX
          split at hX
          rotate_left
          · simp at hX
          split at hX
          rotate_left
          · simp at hX
          simp only [Option.some.injEq, Prod.mk.injEq] at hX
          rw [← hX.2] at hm
          simp only [apTouch, hpl, List.mem_append]
          exact .inl hm
        · simp at hX
    show (_ : Heap)[l]? = _
    rw [List.getElem?_append_left (by rw [hkill_len]; exact hl), hkill_ne _ _ _ hT]
  split at e
  · exact to e
  · split at e
    · exact to e
    · simp at e
  · simp at e

theorem aop_keepsT {P : Program} {Γ : Env} {ops : Array Oper} {o : Oper} {n0 : Nat} {T : List Nat} {s s' : AS} (hk : keepsT Γ n0 T s o = true) (h0 : n0 ≤ s.heap.length) (e : aop P Γ ops o s some = some s') : n0 ≤ s'.heap.length ∧ ∀ l, l < n0 → l ∉ T → s'.heap[l]? = s.heap[l]? := by
  unfold keepsT at hk
  rw [Bool.and_eq_true] at hk
  obtain ⟨hg, hk⟩ := hk
  have hg : o.guard = none := by simpa using hg
  split at hk
  rotate_left
  · simp at hk
  rename_i L hL
  unfold aop at e
  simp only [hg] at e
  have hput : ∀ (q : AS) (d : Option Nat) (tv : TV), (q.put d tv).heap = q.heap := fun q d tv => by cases d <;> rfl
  have key : s.heap.length ≤ s'.heap.length ∧ ∀ l, l < s.heap.length → l ∉ L → s'.heap[l]? = s.heap[l]? := by
    cases hop : o.op with
    | store t x y =>
      unfold astep at e
      simp only [hop] at e
      split at e
      rotate_left
      · simp at e
      rename_i d hd
      obtain ⟨q1, q2⟩ := astore_touch (s1 := s) hop hL hd e (fun q hq => by simp only [Option.some.injEq] at hq; subst hq; rw [hput])
      exact ⟨q1, fun l _ hn => q2 l hn⟩
    | call c =>
      simp only [touchX, hop] at hL
      split at hL
      · simp at hL
      rename_i him
      have him : Γ.im o = false := by simpa using him
      split at hL
      · rename_i g hc
        split at hL
        rotate_left
        · simp at hL
        rename_i d hd
        split at hL
        rotate_left
        · simp at hL
        rename_i f hf
        simp only [Option.some.injEq] at hL
        subst hL
        simp only [astep, hop, hc, AS.ev, hd, List.map_nil, him] at e
        unfold acallH at e
        split at e
        · simp at e
        rename_i xx hx
        obtain ⟨y, hy, e⟩ := Option.bind_eq_some_iff.1 e
        simp only [Option.some.injEq] at e
        subst e
        rw [hput]
        obtain ⟨q1, q2⟩ := d.touches f hf s.heap (c.args.toList.map s.ev ++ []) xx y hx
        exact ⟨q1, q2⟩
      · rename_i hc
        split at hL
        rotate_left
        · simp at hL
        rename_i x y ha
        split at hL
        rotate_left
        · simp at hL
        rename_i av bv h1 h2
        split at hL
        · simp at hL
        simp only [Option.some.injEq] at hL
        subst hL
        simp only [astep, hop, hc, him] at e
        exact append_touch ha h1 h2 e
      · simp at hL
    | mapEntry t m i =>
      simp only [touchX, hop] at hL
      split at hL
      rotate_left
      · simp at hL
      rename_i l0 hm
      simp only [Option.some.injEq] at hL
      subst hL
      simp only [astep, hop, amapEntry] at e
      split at e
      rotate_left
      · simp at e
      rename_i kt vt l hu hm'
      rw [hm] at hm'
      simp only [TV.one.injEq, AV.mp.injEq] at hm'
      subst hm'
      split at e
      rotate_left
      · simp at e
      split at e
      rotate_left
      · simp at e
      split at e
      rotate_left
      · simp at e
      simp only [Option.some.injEq] at e
      subst e
      rw [hput]
      refine ⟨by simp, fun l hl hn => ?_⟩
      show (_ ++ _ : Heap)[l]? = _
      rw [List.getElem?_append_left (by simpa using hl), List.getElem?_set_ne (fun e => hn (by simp [e]))]
    | entryStore t m st y =>
      simp only [astep, hop, aentryStore] at e
      split at e
      rotate_left
      · simp at e
      rename_i l0 q hm hq
      simp only [touchX, hop, hm, hq, Option.some.injEq] at hL
      subst hL
      split at e
      rotate_left
      · simp at e
      split at e
      rotate_left
      · simp at e
      split at e
      rotate_left
      · simp at e
      simp only [Option.some.injEq] at e
      subst e
      rw [hput]
      refine ⟨by simp [AS.upd], fun l hl hn => ?_⟩
      simp only [AS.upd]
      rw [List.getElem?_set_ne (fun e => hn (by simp [e])), List.getElem?_set_ne (fun e => hn (by simp [e]))]
    | _ => simp [touchX, hop] at hL
  refine ⟨Nat.le_trans h0 key.1, fun l hl hlT => key.2 l (Nat.lt_of_lt_of_le hl h0) fun hm => ?_⟩
  have := List.all_eq_true.1 hk l hm
  simp only [Bool.or_eq_true, decide_eq_true_eq, List.contains_eq_mem] at this
  rcases this with h | h
  · omega
  · exact hlT h

theorem killL_ne (h : Heap) : ∀ (T : List Nat) (l : Nat), l ∉ T → (killL h T)[l]? = h[l]?
  | [], l, _ => rfl
  | x :: T, l, hl => by
    have h1 : l ≠ x := fun e => hl (by simp [e])
    have h2 : l ∉ T := fun e => hl (by simp [e])
    simp only [killL]
    rw [List.getElem?_set_ne (Ne.symm h1), killL_ne h T l h2]

theorem killL_len (h : Heap) : ∀ (T : List Nat), (killL h T).length = h.length
  | [] => rfl
  | x :: T => by simp [killL, killL_len h T]

theorem killL_mem (h : Heap) : ∀ (T : List Nat) (l : Nat), l ∈ T → hat (killL h T) l = .dead
  | x :: T, l, hl => by
    simp only [killL]
    by_cases e : l = x
    · subst e
      unfold hat
      by_cases hlen : l < (killL h T).length
      · rw [List.getElem?_set_self hlen]
      · rw [List.getElem?_eq_none (by simp; omega)]
    · have : l ∈ T := by simpa [e] using hl
      have ih := killL_mem h T l this
      unfold hat at ih ⊢
      rw [List.getElem?_set_ne (Ne.symm e)]
      exact ih

def LikeT (ops : Array Oper) (o : Oper) (T T' : List TV) : Prop := ∀ d ∈ o.looksAt ops, T'[d]? = T[d]?

section
variable {P : Program} {Γ : Env} {ops : Array Oper} {r s : AS} {o : Oper}

theorem LikeT.like (h : LikeT ops o r.tmps s.tmps) : Like o r s := by
  intro x hx
  cases x with
  | tmp t =>
    have := h t (List.mem_append_left _ (List.mem_filterMap.2 ⟨.tmp t, by simpa using hx, rfl⟩))
    simp only [AS.ev, this]
  | _ => rfl

theorem LikeT.guard (h : LikeT ops o r.tmps s.tmps) {j : Nat} {b : Bool} {d : Nat} (hg : o.guard = some (j, b)) (hd : gslot ops j = some d) : s.tmps[d]? = r.tmps[d]? := by
  refine h d (List.mem_append_right _ ?_)
  simp only [hg]
  unfold gslot at hd
  split at hd
  · rename_i p hp
    simp [hp, hd]
  · simp at hd

theorem put_same {d : Nat} {t : TV} (h : r.tmps[d]? = some t) : r.put (some d) t = r := by
  simp only [AS.put]
  have : r.tmps.set d t = r.tmps := by
    apply List.ext_getElem?
    intro i
    by_cases e : d = i
    · subst e
      have hl := (List.getElem?_eq_some_iff.1 h).1
      rw [List.getElem?_set_self hl, h]
    · rw [List.getElem?_set_ne e]
  rw [this]

def Lits (ops : Array Oper) (o : Oper) (T : List TV) : Prop := ∀ (j : Nat) (b : Bool) (d : Nat), o.guard = some (j, b) → gslot ops j = some d → ∀ c f, T[d]? = some (.one (.dat .bool c f)) → f = true

theorem aop_read (hn : isEff Γ o = false) (hl : Lits ops o r.tmps) {R : Type} {k : AS → Option R} {x : R} (e : aop P Γ ops o r k = some x) :
    ∃ t, k (r.put o.dst t) = some x ∧ ∀ s, LikeT ops o r.tmps s.tmps → Sub r.heap s.heap → ∀ (R' : Type) (k' : AS → Option R'), aop P Γ ops o s k' = k' (s.put o.dst t) := by
  unfold aop at e
  split at e
  · rename_i hg
    obtain ⟨t, h1, h2⟩ := step_read hn e
    refine ⟨t, h1, fun s hk hs R' k' => ?_⟩
    unfold aop
    simp only [hg]
    exact h2 s hk.like hs R' k'
  · rename_i j want hg
    split at e
    · simp at e
    rename_i d hd
    split at e
    · rename_i b f hb
      have hf := hl j want d hg hd b f hb
      subst hf
      have hsame : r.put (some d) (litTV b) = r := put_same hb
      cases hw : (b == want)
      · have e' : k (r.put o.dst undefTV) = some x := by
          cases b <;> cases want <;> simp at hw <;> simpa [hsame] using e
        refine ⟨undefTV, e', fun s hk hs R' k' => ?_⟩
        unfold aop
        have hb' : s.tmps[d]? = some (.one (.dat .bool b true)) := by rw [hk.guard hg hd, hb]
        have hsame' : s.put (some d) (litTV b) = s := put_same hb'
        simp only [hg, hd, hb']
        cases b <;> cases want <;> simp at hw <;> simp [hsame']
      · have e' : astep P Γ r o k = some x := by
          cases b <;> cases want <;> simp at hw <;> simpa [hsame] using e
        obtain ⟨t, h1, h2⟩ := step_read hn e'
        refine ⟨t, h1, fun s hk hs R' k' => ?_⟩
        unfold aop
        have hb' : s.tmps[d]? = some (.one (.dat .bool b true)) := by rw [hk.guard hg hd, hb]
        have hsame' : s.put (some d) (litTV b) = s := put_same hb'
        simp only [hg, hd, hb']
        have := h2 s hk.like hs R' k'
        cases b <;> cases want <;> simp at hw <;> simpa [hsame'] using this
    · rename_i hb
      refine ⟨undefTV, e, fun s hk hs R' k' => ?_⟩
      unfold aop
      have hb' : s.tmps[d]? = some (.tup []) := by rw [hk.guard hg hd, hb]
      simp only [hg, hd, hb']
    · simp at e

theorem aop_eff (hn : isEff Γ o = true) (hl : Lits ops o r.tmps) {R : Type} {k : AS → Option R} {x : R} (e : aop P Γ ops o r k = some x) :
    ∃ t h', k ({ r with heap := h' }.put o.dst t) = some x ∧ (isPush Γ o = true → ∃ δ, h' = r.heap ++ δ) ∧
      ∀ s : AS, LikeT ops o r.tmps s.tmps → s.heap = r.heap → ∀ (R' : Type) (k' : AS → Option R'), aop P Γ ops o s k' = k' ({ s with heap := h' }.put o.dst t) := by
  unfold aop at e
  split at e
  · rename_i hg
    obtain ⟨t, h', h1, h2, h3⟩ := eff_two hn e
    refine ⟨t, h', h1, h2, fun s hk hs R' k' => ?_⟩
    unfold aop
    simp only [hg]
    exact h3 s hk.like hs R' k'
  · rename_i j want hg
    split at e
    · simp at e
    rename_i d hd
    split at e
    · rename_i b f hb
      have hf := hl j want d hg hd b f hb
      subst hf
      have hsame : r.put (some d) (litTV b) = r := put_same hb
      cases hw : (b == want)
      · have e' : k (r.put o.dst undefTV) = some x := by
          cases b <;> cases want <;> simp at hw <;> simpa [hsame] using e
        refine ⟨undefTV, r.heap, e', fun _ => ⟨[], by simp⟩, fun s hk hs R' k' => ?_⟩
        unfold aop
        have hb' : s.tmps[d]? = some (.one (.dat .bool b true)) := by rw [hk.guard hg hd, hb]
        have hsame' : s.put (some d) (litTV b) = s := put_same hb'
        simp only [hg, hd, hb', ← hs]
        cases b <;> cases want <;> simp at hw <;> simp [hsame']
      · have e' : astep P Γ r o k = some x := by
          cases b <;> cases want <;> simp at hw <;> simpa [hsame] using e
        obtain ⟨t, h', h1, h2, h3⟩ := eff_two hn e'
        refine ⟨t, h', h1, h2, fun s hk hs R' k' => ?_⟩
        unfold aop
        have hb' : s.tmps[d]? = some (.one (.dat .bool b true)) := by rw [hk.guard hg hd, hb]
        have hsame' : s.put (some d) (litTV b) = s := put_same hb'
        simp only [hg, hd, hb']
        have := h3 s hk.like hs R' k'
        cases b <;> cases want <;> simp at hw <;> simpa [hsame'] using this
    · rename_i hb
      refine ⟨undefTV, r.heap, e, fun _ => ⟨[], by simp⟩, fun s hk hs R' k' => ?_⟩
      unfold aop
      have hb' : s.tmps[d]? = some (.tup []) := by rw [hk.guard hg hd, hb]
      simp only [hg, hd, hb', ← hs]
    · simp at e
end
end Go.Proofs.AM
end

section
namespace Go.Proofs.AM
open Go Go.RowKit

def put1 (T : List TV) (d : Option Nat) (t : TV) : List TV := match d with
  | some d => T.set d t
  | none => T

def puts : List Oper → List TV → List TV → List TV
  | o :: l, t :: ts, T => puts l ts (put1 T o.dst t)
  | _, _, T => T

structure StepOK (P : Program) (Γ : Env) (ops : Array Oper) (cm : Bool) (n0 : Nat) (Tt : List Nat) (o : Oper) (T : List TV) (H H' V : Heap) (t : TV) : Prop where
  ex : ∃ t', anorm t' = t ∧ (isEff Γ o = true → ∀ s : AS, LikeT ops o T s.tmps → s.heap = H → ∀ (R : Type) (k : AS → Option R), aop P Γ ops o s k = k ({ s with heap := H' }.put o.dst t')) ∧
    (isEff Γ o = false → ∀ s : AS, LikeT ops o T s.tmps → Sub V s.heap → ∀ (R : Type) (k : AS → Option R), aop P Γ ops o s k = k (s.put o.dst t'))
  push : isEff Γ o = true → isPush Γ o = true → ∃ δ, H' = H ++ δ
  same : isEff Γ o = false → H' = H
  keep : cm = true → isEff Γ o = true → n0 ≤ H.length → n0 ≤ H'.length ∧ ∀ l, l < n0 → l ∉ Tt → H'[l]? = H[l]?

section
variable {P : Program} {Γ : Env} {ops : Array Oper}

theorem put1_put (s : AS) (d : Option Nat) (t : TV) : (s.put d t).tmps = put1 s.tmps d t := by cases d <;> rfl
theorem put_heap (s : AS) (d : Option Nat) (t : TV) : (s.put d t).heap = s.heap := by cases d <;> rfl
theorem put_marks (s : AS) (d : Option Nat) (t : TV) : (s.put d t).marks = s.marks := by cases d <;> rfl

def NormUpTo (ops : Array Oper) (i : Nat) (T : List TV) : Prop := ∀ g, g < i → ∀ d, gslot ops g = some d → ∀ c f, T[d]? = some (.one (.dat .bool c f)) → f = true

theorem NormUpTo.put {i : Nat} {T : List TV} {o : Oper} (h : NormUpTo ops i T) (ho : ops[i]? = some o) (t : TV) : NormUpTo ops (i + 1) (put1 T o.dst (anorm t)) := by
  intro g hg d hd c f hT
  cases hdst : o.dst with
  | none =>
    simp only [hdst, put1] at hT
    have : g ≠ i := fun e => by subst e; simp [gslot, ho, hdst] at hd
    exact h g (by omega) d hd c f hT
  | some d' =>
    simp only [hdst, put1] at hT
    by_cases e : d' = d
    · subst e
      rw [List.getElem?_set_self'] at hT
      cases hTd : T[d']? with
      | none => simp [hTd] at hT
      | some u => simp [hTd] at hT; exact anorm_lit hT
    · rw [List.getElem?_set_ne e] at hT
      have : g ≠ i := fun e' => by subst e'; simp only [gslot, ho, hdst, Option.some.injEq] at hd; exact e hd
      exact h g (by omega) d hd c f hT

theorem trace (hgd : ∀ (i : Nat) (o : Oper) (g : Nat) (b : Bool), ops[i]? = some o → o.guard = some (g, b) → g < i) {cm : Bool} {n0 : Nat} {Tt : List Nat} {V : Heap} {R : Type} {k : AS → Option R} {r : R} :
    ∀ (l : List (Oper × Nat × Bool)) (i : Nat) (Hs : List Heap) (s : AS), adrs P Γ ops cm n0 Tt V l Hs s k = some r → Hs.length = i + 1 → Hs[i]? = some s.heap →
      (∀ j o lo hid, l[j]? = some (o, lo, hid) → ops[i + j]? = some o ∧ lo ≤ i + j) → NormUpTo ops i s.tmps →
      ∃ (ts : List TV) (Hn : List Heap), ts.length = l.length ∧ Hn.length = l.length ∧
        k { s with tmps := puts (l.map (·.1)) ts s.tmps, heap := (Hs ++ Hn).getD (i + l.length) [] } = some r ∧
        ∀ (j : Nat) (o : Oper) (lo : Nat) (hid : Bool) (t : TV), l[j]? = some (o, lo, hid) → ts[j]? = some t →
          StepOK P Γ ops cm n0 Tt o (puts ((l.map (·.1)).take j) (ts.take j) s.tmps) ((Hs ++ Hn).getD (i + j) []) ((Hs ++ Hn).getD (i + j + 1) []) (if hid = true then V else (Hs ++ Hn).getD lo []) t
  | [], i, Hs, s, e, hl, hh, _, _ => by
    refine ⟨[], [], rfl, rfl, ?_, fun j o lo hid t h => by simp at h⟩
    have : (Hs ++ []).getD (i + 0) [] = s.heap := by simp [hh]
    simp only [List.length_nil, this]
    exact e
  | (o, lo, hid) :: l, i, Hs, s, e, hl, hh, hi, hn => by
    obtain ⟨ho, hlo⟩ := hi 0 o lo hid rfl
    simp only [Nat.add_zero] at ho hlo
    have lits : Lits ops o s.tmps := fun g b d hg hd c f hc => hn g (hgd i o g b ho hg) d hd c f hc
    have hcur : ∀ Hn : List Heap, (Hs ++ Hn).getD i [] = s.heap := fun Hn => by
      rw [List.getD_eq_getElem?_getD, List.getElem?_append_left (by omega), hh]; rfl
    have hold : ∀ (Hn : List Heap) (m : Nat), m ≤ i → (Hs ++ Hn).getD m [] = Hs.getD m [] := fun Hn m hm => by
      rw [List.getD_eq_getElem?_getD, List.getElem?_append_left (by omega), ← List.getD_eq_getElem?_getD]
    unfold adrs at e
    split at e
    · rename_i he
      split at e
      rotate_left
      · simp at e
      rename_i hcm
      obtain ⟨t', h', e, hpush, hstep⟩ := aop_eff he lits e
      rw [anormAt_put, put_heap] at e
      have hnext : (Hs ++ [h'])[i + 1]? = some ({ s with heap := h' }.put o.dst (anorm t')).heap := by
        rw [put_heap, List.getElem?_append_right (by omega), hl]; simp
      have hn' : NormUpTo ops (i + 1) ({ s with heap := h' }.put o.dst (anorm t')).tmps := by
        rw [put1_put]; exact hn.put ho t'
      obtain ⟨ts, Hn, q1, q2, q3, q4⟩ := trace hgd l (i + 1) (Hs ++ [h']) _ e (by simp [hl]) hnext (fun j o lo hid hj => by
        have := hi (j + 1) o lo hid (by simpa using hj)
        rwa [show i + (j + 1) = i + 1 + j by omega] at this) hn'
      have happ : Hs ++ h' :: Hn = Hs ++ [h'] ++ Hn := by simp
      refine ⟨anorm t' :: ts, h' :: Hn, by simp [q1], by simp [q2], ?_, ?_⟩
      · rw [happ]
        have : (({ s with heap := h' } : AS).put o.dst (anorm t')).marks = s.marks := by rw [put_marks]
        rw [put1_put] at q3
        simp only [List.map_cons, puts, List.length_cons]
        rw [show i + (l.length + 1) = i + 1 + l.length by omega]
        have e3 : ∀ (T : List TV) (H : Heap), ({ (({ s with heap := h' } : AS).put o.dst (anorm t')) with tmps := T, heap := H } : AS) = { s with tmps := T, heap := H } := fun T H => by
          cases o.dst <;> rfl
        rw [e3] at q3
        exact q3
      · intro j o1 lo1 hid1 t1 hj ht
        cases j with
        | zero =>
          simp only [List.getElem?_cons_zero, Option.some.injEq, Prod.mk.injEq] at hj ht
          obtain ⟨rfl, rfl, rfl⟩ := hj
          subst ht
          have hH' : (Hs ++ h' :: Hn).getD (i + 0 + 1) [] = h' := by
            rw [List.getD_eq_getElem?_getD, List.getElem?_append_right (by omega), hl]; simp
          rw [hH', Nat.add_zero, hcur]
          refine ⟨⟨t', rfl, fun _ => ?_, fun h => by rw [he] at h; simp at h⟩, fun _ hp => hpush hp, fun h => by rw [he] at h; simp at h, fun hc _ hn0 => ?_⟩
          · simpa [puts] using hstep
          · subst hc
            simp only [Bool.not_true, Bool.false_or, Bool.or_eq_true] at hcm
            rcases hcm with hp | hk
            · obtain ⟨δ, hδ⟩ := hpush hp
              rw [hδ]
              exact ⟨by simp; omega, fun l hl _ => List.getElem?_append_left (by omega)⟩
            · have e5 := hstep s (fun _ _ => rfl) rfl AS some
              have := aop_keepsT hk hn0 e5
              rw [put_heap] at this
              exact this
        | succ j =>
          have := q4 j o1 lo1 hid1 t1 (by simpa using hj) (by simpa using ht)
          rw [put1_put] at this
          rw [happ, show i + (j + 1) = i + 1 + j by omega]
          simpa [puts] using this
    · rename_i he
      have he : isEff Γ o = false := by simpa using he
      obtain ⟨t', e, hstep⟩ := aop_read (r := { s with heap := if hid = true then V else Hs.getD lo [] }) he lits e
      have e4 : ({ ({ s with heap := if hid = true then V else Hs.getD lo [] } : AS).put o.dst t' with heap := s.heap } : AS) = s.put o.dst t' := by cases o.dst <;> rfl
      rw [e4, anormAt_put] at e
      have hnext : (Hs ++ [s.heap])[i + 1]? = some (s.put o.dst (anorm t')).heap := by
        rw [put_heap, List.getElem?_append_right (by omega), hl]; simp
      have hn' : NormUpTo ops (i + 1) (s.put o.dst (anorm t')).tmps := by
        rw [put1_put]; exact hn.put ho t'
      obtain ⟨ts, Hn, q1, q2, q3, q4⟩ := trace hgd l (i + 1) (Hs ++ [s.heap]) _ e (by simp [hl]) hnext (fun j o lo hid hj => by
        have := hi (j + 1) o lo hid (by simpa using hj)
        rwa [show i + (j + 1) = i + 1 + j by omega] at this) hn'
      have happ : Hs ++ s.heap :: Hn = Hs ++ [s.heap] ++ Hn := by simp
      refine ⟨anorm t' :: ts, s.heap :: Hn, by simp [q1], by simp [q2], ?_, ?_⟩
      · rw [happ]
        rw [put1_put] at q3
        simp only [List.map_cons, puts, List.length_cons]
        rw [show i + (l.length + 1) = i + 1 + l.length by omega]
        have e3 : ∀ (T : List TV) (H : Heap), ({ (s.put o.dst (anorm t')) with tmps := T, heap := H } : AS) = { s with tmps := T, heap := H } := fun T H => by
          cases o.dst <;> rfl
        rw [e3] at q3
        exact q3
      · intro j o1 lo1 hid1 t1 hj ht
        cases j with
        | zero =>
          simp only [List.getElem?_cons_zero, Option.some.injEq, Prod.mk.injEq] at hj ht
          obtain ⟨rfl, rfl, rfl⟩ := hj
          subst ht
          have hH' : (Hs ++ s.heap :: Hn).getD (i + 0 + 1) [] = s.heap := by
            rw [List.getD_eq_getElem?_getD, List.getElem?_append_right (by omega), hl]; simp
          rw [hH', Nat.add_zero, hcur, hold _ lo hlo]
          refine ⟨⟨t', rfl, fun h => by rw [he] at h; simp at h, fun _ => ?_⟩, fun h => by rw [he] at h; simp at h, fun _ => rfl, fun _ h => by rw [he] at h; simp at h⟩
          simpa [puts] using hstep
        | succ j =>
          have := q4 j o1 lo1 hid1 t1 (by simpa using hj) (by simpa using ht)
          rw [put1_put] at this
          rw [happ, show i + (j + 1) = i + 1 + j by omega]
          simpa [puts] using this
end
end Go.Proofs.AM
end

section
namespace Go.Proofs.AM
open Go Go.RowKit

section
variable {P : Program} {Γ : Env} {ops : Array Oper}

theorem put1_len (T : List TV) (d : Option Nat) (t : TV) : (put1 T d t).length = T.length := by cases d <;> simp [put1]

theorem puts_len : ∀ (l : List Oper) (ts T : List TV), (puts l ts T).length = T.length
  | [], _, _ => rfl
  | _ :: _, [], _ => rfl
  | o :: l, t :: ts, T => by
    show (puts l ts (put1 T o.dst t)).length = _
    rw [puts_len l, put1_len]

theorem puts_none {d : Nat} : ∀ (l : List Oper) (ts T : List TV), (∀ o ∈ l, o.dst ≠ some d) → (puts l ts T)[d]? = T[d]?
  | [], _, _, _ => rfl
  | _ :: _, [], _, _ => rfl
  | o :: l, t :: ts, T, h => by
    show (puts l ts (put1 T o.dst t))[d]? = _
    rw [puts_none l ts _ (fun o ho => h o (by simp [ho]))]
    have := h o (by simp)
    cases hd : o.dst with
    | none => rfl
    | some d' =>
      simp only [put1]
      rw [List.getElem?_set_ne (fun e => this (by rw [hd, e]))]

theorem puts_some {d : Nat} : ∀ (l : List Oper) (ts T : List TV) (j : Nat) (o : Oper) (t : TV), l[j]? = some o → ts[j]? = some t → o.dst = some d → (∀ j' o', j' ≠ j → l[j']? = some o' → o'.dst ≠ some d) → d < T.length → (puts l ts T)[d]? = some t
  | [], _, _, j, _, _, h, _, _, _, _ => by simp at h
  | _ :: _, [], _, j, _, _, _, h, _, _, _ => by simp at h
  | o :: l, t :: ts, T, 0, o', t', h, h', hd, hu, hl => by
    simp only [List.getElem?_cons_zero, Option.some.injEq] at h h'
    subst h; subst h'
    show (puts l ts (put1 T o.dst t))[d]? = _
    rw [puts_none l ts _ (fun p hp => by
      obtain ⟨q, hq⟩ := List.getElem?_of_mem hp
      exact hu (q + 1) p (by omega) (by simpa using hq))]
    simp [hd, put1, hl]
  | o :: l, t :: ts, T, j + 1, o', t', h, h', hd, hu, hl => by
    show (puts l ts (put1 T o.dst t))[d]? = _
    refine puts_some l ts _ j o' t' (by simpa using h) (by simpa using h') hd (fun j' p hne hp => hu (j' + 1) p (by omega) (by simpa using hp)) ?_
    rw [put1_len]; exact hl

theorem drawInfo_map {Γ : Env} {l : List Oper} {tab : List (List Nat)} : ∀ (r : List Oper) (i : Nat), (drawInfo Γ l tab r i).map (·.1) = r
  | [], _ => rfl
  | o :: r, i => by simp [drawInfo, drawInfo_map r]

theorem Reach.lt (D : DrawP Γ ops) {j i : Nat} (h : Reach ops j i) : j < i := by
  induction h with
  | one ho hj => exact D.dir _ _ ho _ hj
  | step _ ho hj ih => have := D.dir _ _ ho _ hj; omega

structure Ref (P : Program) (Γ : Env) (ops : Array Oper) (s0 : AS) {R : Type} (k : AS → Option R) (r : R) (ts : List TV) (HH : Nat → Heap) (cm : Bool) (Tt : List Nat) : Prop where
  dp : DrawP Γ ops
  len : ts.length = ops.size
  h0 : HH 0 = s0.heap
  fin : k { s0 with tmps := puts ops.toList ts s0.tmps, heap := HH ops.size } = some r
  step : ∀ (i : Nat) (o : Oper), ops[i]? = some o → ∃ lo hid t, ts[i]? = some t ∧ InfoP Γ ops i lo hid ∧
    StepOK P Γ ops cm s0.heap.length Tt o (puts (ops.toList.take i) (ts.take i) s0.tmps) (HH i) (HH (i + 1)) (if hid = true then (if cm = true then killL s0.heap Tt else []) else HH lo) t

theorem adraw_ref {s0 : AS} {R : Type} {k : AS → Option R} {r : R} (e : adraw P Γ ops s0 k = some r) : ∃ ts HH cm Tt, Ref P Γ ops s0 k r ts HH cm Tt := by
  unfold adraw at e
  dsimp only at e
  split at e
  rotate_left
  · simp at e
  rename_i hok
  have ht : ∀ i j, j ∈ (cloTab ops.toList []).getD i [] → Reach ops j i := cloTab_ok ops.toList [] rfl (fun i j h => by simp at h)
  have D := drawOK_ok ht hok
  have hinfo := drawInfo_ok (Γ := Γ) ht ops.toList 0 rfl
  have main : ∃ (cm : Bool) (Tt : List Nat), adrs P Γ ops cm s0.heap.length Tt (if cm = true then killL s0.heap Tt else []) (drawInfo Γ ops.toList (cloTab ops.toList []) ops.toList 0) [s0.heap] s0 k = some r := by
    split at e
    · exact ⟨true, [], e⟩
    · split at e
      · exact ⟨true, _, e⟩
      · exact ⟨false, [], e⟩
  clear e
  obtain ⟨cm, Tt, e⟩ := main
  obtain ⟨ts, Hn, q1, q2, q3, q4⟩ := trace D.gd (drawInfo Γ ops.toList (cloTab ops.toList []) ops.toList 0) 0 [s0.heap] s0 e rfl rfl
    (fun j o lo hid hj => by
      obtain ⟨h1, h2⟩ := hinfo j o lo hid hj
      refine ⟨h1, ?_⟩
      rcases h2.low with h | ⟨e, p, h, _, _, hr⟩
      · omega
      · have := hr.lt D; omega) (fun g hg => by omega)
  rw [drawInfo_map] at q3 q4
  rw [drawInfo_len] at q1 q2 q3
  refine ⟨ts, fun m => ([s0.heap] ++ Hn).getD m [], cm, Tt, D, by rw [q1]; simp, rfl, ?_, fun i o ho => ?_⟩
  · rw [Nat.zero_add] at q3
    simpa using q3
  · have hi : i < ops.size := (Array.getElem?_eq_some_iff.1 ho).1
    have hl : i < (drawInfo Γ ops.toList (cloTab ops.toList []) ops.toList 0).length := by rw [drawInfo_len]; simpa using hi
    obtain ⟨⟨o', lo, hid⟩, hx⟩ : ∃ x, (drawInfo Γ ops.toList (cloTab ops.toList []) ops.toList 0)[i]? = some x := ⟨_, List.getElem?_eq_getElem hl⟩
    obtain ⟨h1, h2⟩ := hinfo i o' lo hid hx
    rw [Nat.zero_add] at h1 h2
    rw [ho] at h1; cases h1
    have hts : i < ts.length := by rw [q1]; simpa using hi
    have := q4 i o lo hid _ hx (List.getElem?_eq_getElem hts)
    rw [Nat.zero_add] at this
    exact ⟨lo, hid, _, List.getElem?_eq_getElem hts, h2, this⟩
end

section
variable {P : Program} {Γ : Env} {ops : Array Oper} {s0 : AS} {R : Type} {k : AS → Option R} {r : R} {ts : List TV} {HH : Nat → Heap} {cm : Bool} {Tt : List Nat}

theorem Ref.same (H : Ref P Γ ops s0 k r ts HH cm Tt) {a : Nat} : ∀ (b : Nat), a ≤ b → b ≤ ops.size → (∀ j o, a ≤ j → j < b → ops[j]? = some o → isEff Γ o = false) → HH a = HH b
  | 0, h, _, _ => by simp at h; rw [h]
  | b + 1, h, hb, hj => by
    by_cases e : a = b + 1
    · rw [e]
    · have ih := H.same b (by omega) (by omega) (fun j o h1 h2 h3 => hj j o h1 (by omega) h3)
      obtain ⟨lo, hid, t, _, _, hs⟩ := H.step b ops[b] (Array.getElem?_eq_getElem (by omega))
      rw [ih, hs.same (hj b _ (by omega) (by omega) (Array.getElem?_eq_getElem (by omega)))]

theorem Ref.calm (H : Ref P Γ ops s0 k r ts HH cm Tt) (hc : cm = true) : ∀ (b : Nat), b ≤ ops.size → s0.heap.length ≤ (HH b).length ∧ ∀ l, l < s0.heap.length → l ∉ Tt → (HH b)[l]? = s0.heap[l]?
  | 0, _ => by rw [H.h0]; exact ⟨Nat.le_refl _, fun _ _ _ => rfl⟩
  | b + 1, hb => by
    have ih := H.calm hc b (by omega)
    obtain ⟨lo, hid, t, _, _, hs⟩ := H.step b ops[b] (Array.getElem?_eq_getElem (by omega))
    cases he : isEff Γ ops[b] with
    | false => rw [hs.same he]; exact ih
    | true =>
      obtain ⟨h1, h2⟩ := hs.keep hc he ih.1
      exact ⟨h1, fun l hl hT => by rw [h2 l hl hT, ih.2 l hl hT]⟩

theorem Ref.sub (H : Ref P Γ ops s0 k r ts HH cm Tt) {m : Nat} (hm : m ≤ ops.size) : Sub (if cm = true then killL s0.heap Tt else []) (HH m) := by
  by_cases hc : cm = true
  · rw [if_pos hc]
    intro l
    by_cases hT : l ∈ Tt
    · left; exact killL_mem _ _ _ hT
    by_cases hl : l < s0.heap.length
    · right
      unfold hat
      rw [(H.calm hc m hm).2 l hl hT, killL_ne _ _ _ hT]
    · left
      unfold hat
      rw [List.getElem?_eq_none (by rw [killL_len]; omega)]
  · rw [if_neg hc]; exact Sub.nil _

theorem Ref.pre (H : Ref P Γ ops s0 k r ts HH cm Tt) {a : Nat} : ∀ (b : Nat), a ≤ b → b ≤ ops.size → (∀ j o, a ≤ j → j < b → ops[j]? = some o → isEff Γ o = true → isPush Γ o = true) → ∃ δ, HH b = HH a ++ δ
  | 0, h, _, _ => ⟨[], by simp at h; simp [h]⟩
  | b + 1, h, hb, hj => by
    by_cases e : a = b + 1
    · exact ⟨[], by simp [e]⟩
    · obtain ⟨δ, ih⟩ := H.pre b (by omega) (by omega) (fun j o h1 h2 h3 => hj j o h1 (by omega) h3)
      obtain ⟨lo, hid, t, _, _, hs⟩ := H.step b ops[b] (Array.getElem?_eq_getElem (by omega))
      cases he : isEff Γ ops[b] with
      | false => exact ⟨δ, by rw [hs.same he, ih]⟩
      | true =>
        obtain ⟨δ', h'⟩ := hs.push he (hj b _ (by omega) (by omega) (Array.getElem?_eq_getElem (by omega)) he)
        exact ⟨δ ++ δ', by rw [h', ih, List.append_assoc]⟩

def Cl (ops : Array Oper) (L : Array Bool) : Prop := ∀ (i : Nat) (o : Oper), ops[i]? = some o → L.getD i false = true → ∀ j ∈ dirs o, L.getD j false = true

theorem Cl.reach {L : Array Bool} (h : Cl ops L) {j i : Nat} (hr : Reach ops j i) : L.getD i false = true → L.getD j false = true := by
  induction hr with
  | one ho hj => exact fun hi => h _ _ ho hi _ hj
  | step _ ho hj ih => exact fun hi => ih (h _ _ ho hi _ hj)

structure SI (Γ : Env) (ops : Array Oper) (s0 : AS) (ts : List TV) (HH : Nat → Heap) (L : Array Bool) (s : AS) : Prop where
  len : s.tmps.length = s0.tmps.length
  done : ∀ (j : Nat) (o : Oper) (d : Nat) (t : TV), ops[j]? = some o → L.getD j false = true → o.dst = some d → ts[j]? = some t → d < s0.tmps.length → s.tmps[d]? = some t
  rest : ∀ (d : Nat), (∀ (j : Nat) (o : Oper), ops[j]? = some o → L.getD j false = true → o.dst ≠ some d) → s.tmps[d]? = s0.tmps[d]?
  mrk : s.marks = s0.marks
  heap : ∃ m, m ≤ ops.size ∧ s.heap = HH m ∧ ∀ (j : Nat) (o : Oper), ops[j]? = some o → isEff Γ o = true → (L.getD j false = true ↔ j < m)

theorem SI.final (H : Ref P Γ ops s0 k r ts HH cm Tt) {L : Array Bool} {s : AS} (S : SI Γ ops s0 ts HH L s) (hall : ∀ j, j < ops.size → L.getD j false = true) : k s = some r := by
  have e : s = { s0 with tmps := puts ops.toList ts s0.tmps, heap := HH ops.size } := by
    obtain ⟨m, h1, h2, h3⟩ := S.heap
    have hh : HH m = HH ops.size := H.same ops.size h1 (Nat.le_refl _) (fun j o g1 g2 g3 => by
      cases he : isEff Γ o with
      | false => rfl
      | true => have := (h3 j o g3 he).1 (hall j g2); omega)
    have ht : s.tmps = puts ops.toList ts s0.tmps := by
      apply List.ext_getElem?
      intro d
      by_cases hd : d < s0.tmps.length
      · by_cases hx : ∃ (j : Nat) (o : Oper), ops[j]? = some o ∧ o.dst = some d
        · obtain ⟨j, o, ho, hdo⟩ := hx
          have hj : j < ops.size := (Array.getElem?_eq_some_iff.1 ho).1
          have htj : ts[j]? = some (ts[j]'(by rw [H.len]; exact hj)) := List.getElem?_eq_getElem _
          rw [S.done j o d _ ho (hall j hj) hdo htj hd]
          symm
          refine puts_some _ _ _ j o _ (by simpa using ho) htj hdo (fun j' o' hne ho' hd' => ?_) hd
          exact hne (H.dp.dst j' j o' o d (by simpa using ho') ho hd' hdo)
        · rw [S.rest d (fun j o ho _ hdo => hx ⟨j, o, ho, hdo⟩)]
          rw [puts_none _ _ _ (fun o ho hdo => by
            obtain ⟨j, hj⟩ := List.getElem?_of_mem ho
            exact hx ⟨j, o, by simpa using hj, hdo⟩)]
      · rw [List.getElem?_eq_none (by have := S.len; omega), List.getElem?_eq_none (by rw [puts_len]; omega)]
    have hm := S.mrk
    cases s
    simp_all
  rw [e]; exact H.fin

theorem SI.like (H : Ref P Γ ops s0 k r ts HH cm Tt) {L : Array Bool} {s : AS} (S : SI Γ ops s0 ts HH L s) (hcl : Cl ops L) {i : Nat} {o : Oper} (ho : ops[i]? = some o) (hi : L.getD i false = false) (hd : ∀ j ∈ dirs o, L.getD j false = true) :
    LikeT ops o (puts (ops.toList.take i) (ts.take i) s0.tmps) s.tmps := by
  have hreach : ∀ {j : Nat}, Reach ops j i → L.getD j false = true := by
    intro j hr
    cases hr with
    | one ho' hj => rw [ho] at ho'; cases ho'; exact hd _ hj
    | step hr' ho' hj => rw [ho] at ho'; cases ho'; exact hcl.reach hr' (hd _ hj)
  have htake : ∀ (j : Nat) (o' : Oper), (ops.toList.take i)[j]? = some o' → j < i ∧ ops[j]? = some o' := fun j o' h => by
    rw [List.getElem?_take] at h
    split at h
    · exact ⟨by assumption, by simpa using h⟩
    · simp at h
  intro d hdl
  rcases Nat.lt_or_ge d s0.tmps.length with hlen | hlen
  rotate_left
  · rw [List.getElem?_eq_none (by have := S.len; omega), List.getElem?_eq_none (by rw [puts_len]; omega)]
  by_cases hx : ∃ (j : Nat) (p : Oper), ops[j]? = some p ∧ p.dst = some d
  · obtain ⟨j, p, hp, hdp⟩ := hx
    have uniq : ∀ (j' : Nat) (p' : Oper), ops[j']? = some p' → p'.dst = some d → j' = j := fun j' p' h1 h2 => H.dp.dst j' j p' p d h1 hp h2 hdp
    have undone : L.getD j false = false → i ≤ j → s.tmps[d]? = (puts (ops.toList.take i) (ts.take i) s0.tmps)[d]? := by
      intro hL hij
      rw [S.rest d (fun j' o' h1 h2 h3 => by rw [uniq j' o' h1 h3, hL] at h2; simp at h2)]
      rw [puts_none _ _ _ (fun o' ho' hd' => by
        obtain ⟨j', hj'⟩ := List.getElem?_of_mem ho'
        obtain ⟨g1, g2⟩ := htake j' o' hj'
        have := uniq j' o' g2 hd'
        omega)]
    rcases H.dp.look i j o p d ho hp hdp hdl with rfl | hr | hr
    · exact undone hi (Nat.le_refl _)
    · have hj := hr.lt H.dp
      have hjs : j < ts.length := by rw [H.len]; exact (Array.getElem?_eq_some_iff.1 hp).1
      have htj : ts[j]? = some ts[j] := List.getElem?_eq_getElem hjs
      rw [S.done j p d _ hp (hreach hr) hdp htj hlen]
      symm
      refine puts_some _ _ _ j p _ ?_ ?_ hdp (fun j' o' hne ho' hd' => ?_) hlen
      · rw [List.getElem?_take]; simp [hj]; simpa using hp
      · rw [List.getElem?_take]; simp [hj]
      · exact hne (uniq j' o' (htake j' o' ho').2 hd')
    · have hj := hr.lt H.dp
      refine undone ?_ (Nat.le_of_lt hj)
      cases hL : L.getD j false with
      | false => rfl
      | true => have := hcl.reach hr hL; rw [hi] at this; simp at this
  · rw [S.rest d (fun j o ho _ hdo => hx ⟨j, o, ho, hdo⟩)]
    rw [puts_none _ _ _ (fun o' ho' hd' => by
      obtain ⟨j', hj'⟩ := List.getElem?_of_mem ho'
      exact hx ⟨j', o', (htake j' o' hj').2, hd'⟩)]

theorem SI.next (H : Ref P Γ ops s0 k r ts HH cm Tt) {L : Array Bool} {s : AS} (S : SI Γ ops s0 ts HH L s) (hcl : Cl ops L) (hsz : L.size = ops.size) {i : Nat} {o : Oper} (ho : ops[i]? = some o) (hi : L.getD i false = false) (hd : ∀ j ∈ dirs o, L.getD j false = true) :
    ∃ s', aop P Γ ops o s some = some s' ∧ SI Γ ops s0 ts HH (L.setIfInBounds i true) (anormAt s' o.dst) := by
  have hreach : ∀ {j : Nat}, Reach ops j i → L.getD j false = true := by
    intro j hr
    cases hr with
    | one ho' hj => rw [ho] at ho'; cases ho'; exact hd _ hj
    | step hr' ho' hj => rw [ho] at ho'; cases ho'; exact hcl.reach hr' (hd _ hj)
  have hin : i < ops.size := (Array.getElem?_eq_some_iff.1 ho).1
  have like := S.like H hcl ho hi hd
  obtain ⟨lo, hid, t, ht, hinf, hs⟩ := H.step i o ho
  obtain ⟨t', hn, hE, hR⟩ := hs.ex
  have hset : ∀ j, (L.setIfInBounds i true).getD j false = true ↔ (j = i ∨ L.getD j false = true) := by
    intro j
    by_cases e : i = j
    · subst e
      simp [hsz, hin]
    · have : (L.setIfInBounds i true).getD j false = L.getD j false := by simp [Array.getElem?_setIfInBounds_ne e]
      rw [this]
      constructor
      · exact .inr
      · rintro (h | h)
        · exact absurd h.symm e
        · exact h
  -- the slots
  have core : ∀ (h' : Heap), (∃ m, m ≤ ops.size ∧ h' = HH m ∧ ∀ (j : Nat) (p : Oper), ops[j]? = some p → isEff Γ p = true → ((L.setIfInBounds i true).getD j false = true ↔ j < m)) →
      SI Γ ops s0 ts HH (L.setIfInBounds i true) (anormAt (({ s with heap := h' } : AS).put o.dst t') o.dst) := by
    intro h' hheap
    rw [anormAt_put, hn]
    refine ⟨?_, fun j p d t1 hp hL hdp ht1 hlen => ?_, fun d hno => ?_, ?_, ?_⟩
    · rw [put1_put, put1_len]; exact S.len
    · rw [put1_put]
      by_cases e : j = i
      · subst e
        rw [ho] at hp; cases hp
        rw [ht] at ht1; cases ht1
        simp only [hdp, put1]
        rw [List.getElem?_set_self (by rw [S.len]; exact hlen)]
      · have hL' : L.getD j false = true := by
          rcases (hset j).1 hL with h | h
          · exact absurd h e
          · exact h
        have hne : o.dst ≠ some d := fun h => e (H.dp.dst j i p o d hp ho hdp h)
        have : (put1 s.tmps o.dst t)[d]? = s.tmps[d]? := by
          cases hod : o.dst with
          | none => rfl
          | some d' => simp only [put1]; rw [List.getElem?_set_ne (fun h => hne (by rw [hod, h]))]
        rw [this]
        exact S.done j p d t1 hp hL' hdp ht1 hlen
    · rw [put1_put]
      have hne : o.dst ≠ some d := hno i o ho ((hset i).2 (.inl rfl))
      have : (put1 s.tmps o.dst t)[d]? = s.tmps[d]? := by
        cases hod : o.dst with
        | none => rfl
        | some d' => simp only [put1]; rw [List.getElem?_set_ne (fun h => hne (by rw [hod, h]))]
      rw [this]
      exact S.rest d (fun j p hp hL => hno j p hp ((hset j).2 (.inr hL)))
    · rw [put_marks]; exact S.mrk
    · rw [put_heap]; exact hheap
  obtain ⟨m, hm1, hm2, hm3⟩ := S.heap
  cases he : isEff Γ o with
  | true =>
    -- between m and i no effect
    have hmi : m ≤ i := by
      cases Nat.lt_or_ge i m with
      | inl h => have := (hm3 i o ho he).2 h; rw [hi] at this; simp at this
      | inr h => exact h
    have hh : s.heap = HH i := by
      rw [hm2]
      refine H.same i hmi (Nat.le_of_lt hin) (fun j p g1 g2 g3 => ?_)
      cases hep : isEff Γ p with
      | false => rfl
      | true =>
        have := (hm3 j p g3 hep).1 (hreach (H.dp.eff j i p o g3 ho hep he g2))
        omega
    refine ⟨_, hE he s like hh AS some, core _ ⟨i + 1, hin, rfl, fun j p hp hep => ?_⟩⟩
    rw [hset]
    constructor
    · rintro (h | h)
      · omega
      · have := (hm3 j p hp hep).1 h; omega
    · intro h
      by_cases e : j = i
      · exact .inl e
      · exact .inr (hreach (H.dp.eff j i p o hp ho hep he (by omega)))
  | false =>
    have hsub : Sub (if hid = true then (if cm = true then killL s0.heap Tt else []) else HH lo) s.heap := by
      cases hh : hid with
      | true => rw [if_pos rfl, hm2]; exact H.sub hm1
      | false =>
        simp only [Bool.false_eq_true, if_false]
        have hlm : lo ≤ m := by
          rcases hinf.low with h | ⟨e, p, h, hp, hep, hr⟩
          · omega
          · have := (hm3 e p hp hep).1 (hreach hr); omega
        obtain ⟨δ, hδ⟩ := H.pre m hlm hm1 (fun j p g1 g2 g3 g4 => by
          rcases hinf.hide hh j p g3 g4 g1 with h | h | h
          · exact h
          · have := hcl.reach h ((hm3 j p g3 g4).2 g2); rw [hi] at this; simp at this
          · subst h; rw [ho] at g3; cases g3; rw [he] at g4; simp at g4)
        rw [hm2, hδ]
        exact Sub.app _ _
    refine ⟨_, hR he s like hsub AS some, ?_⟩
    have : s = { s with heap := s.heap } := rfl
    rw [this]
    refine core s.heap ⟨m, hm1, hm2, fun j p hp hep => ?_⟩
    rw [hset]
    constructor
    · rintro (h | h)
      · subst h; rw [ho] at hp; cases hp; rw [he] at hep; simp at hep
      · exact (hm3 j p hp hep).1 h
    · exact fun h => .inr ((hm3 j p hp hep).2 h)
end
end Go.Proofs.AM
end

section
namespace Go.Proofs.AM
open Go Go.RowKit

section
variable {P : Program} {Γ : Env} {ops : Array Oper} {C : Cx} {s : AS} {β : List Bl} {a : Act} {w : World}

theorem Rel.norm (h : Rel C s β a w) (d : Option Nat) : Rel C (anormAt s d) β a w := by
  cases d with
  | none => exact h
  | some d =>
    unfold anormAt
    dsimp only
    split
    · rename_i t ht
      refine { h with tsize := by simp [h.tsize], tm := fun i t' hi => ?_ }
      by_cases e : d = i
      · subst e
        have hl := (List.getElem?_eq_some_iff.1 ht).1
        have hi : (s.tmps.set d (anorm t))[d]? = some t' := hi
        rw [List.getElem?_set_self hl] at hi
        cases hi
        exact anorm_R (h.tm d t ht)
      · have hi : (s.tmps.set d (anorm t))[i]? = some t' := hi
        rw [List.getElem?_set_ne e] at hi
        exact h.tm i t' hi
    · exact h

theorem Ext.norm (s : AS) (β : List Bl) (d : Option Nat) : Ext (fun i => d = some i) s (anormAt s d) β β := by
  cases d with
  | none => exact Ext.refl _ _ _
  | some d =>
    unfold anormAt
    dsimp only
    split
    · rename_i t ht
      refine ⟨⟨[], by simp⟩, fun i hi => ?_, by simp, Nat.le_refl _, fun _ _ _ h => h, ⟨[], rfl⟩, fun _ h => h⟩
      show (s.tmps.set d (anorm t))[i]? = _
      rw [List.getElem?_set_ne (fun e => hi (by rw [e]))]
    · exact Ext.refl _ _ _

theorem Rel.drew (h : Rel C s β a w) : Rel C s β a { w with drawn := w.drawn + 1 } := (h.grew (Grew.drew w)).1

theorem count_set {l : List Bool} {i : Nat} (h : l[i]? = some false) : (l.set i true).count false + 1 = l.count false := by
  have hl := (List.getElem?_eq_some_iff.1 h).1
  have hv := (List.getElem?_eq_some_iff.1 h).2
  rw [List.count_set hl, hv]
  have : 0 < l.count false := List.count_pos_iff.2 (List.mem_of_getElem? h)
  simp
  omega

theorem draw_any {F : Fence} (hF : FW F) (hΓ : Γ.Sound P) {n : Nat} {Q : Exit → Act → World → Prop} {s0 : AS} {β0 : List Bl} {R : Type} {k : AS → Option R} {r : R} {ts : List TV} {HH : Nat → Heap} {cm : Bool} {Tt : List Nat} (H : Ref P Γ ops s0 k r ts HH cm Tt)
    (hQ : ∀ a' w', After C s0 β0 (rdst ops) k r a' w' → Q .normal a' w') :
    ∀ (fuel : Nat) (L : Array Bool) (s : AS) (β : List Bl) (a : Act) (w : World), L.size = ops.size → Cl ops L → SI Γ ops s0 ts HH L s → Rel C s β a w → Ext (rdst ops) s0 s β0 β → L.toList.count false ≤ fuel →
      wpAnyIn F n P .any ops Q fuel L a w := by
  have fin : ∀ (L : Array Bool) (s : AS) (β : List Bl) (a : Act) (w : World), L.size = ops.size → SI Γ ops s0 ts HH L s → Rel C s β a w → Ext (rdst ops) s0 s β0 β → (∀ j, j < ops.size → L.getD j false = true) → Q .normal a w :=
    fun L s β a w hsz S h hE hall => hQ a w ⟨s, β, S.final H hall, h, hE⟩
  have allOf : ∀ (L : Array Bool), L.size = ops.size → Region.ready .any ops L = [] → ∀ j, j < ops.size → L.getD j false = true := by
    intro L hsz hr j
    induction j using Nat.strongRecOn with
    | _ j ih =>
      intro hj
      cases hL : L.getD j false with
      | true => rfl
      | false =>
        have hmem : j ∈ Region.ready .any ops L := by
          rw [mem_ready]
          refine ⟨?_, ops[j], Array.getElem?_eq_getElem hj, fun e he hb => ?_⟩
          · have hjL : j < L.size := by omega
            simpa [hjL] using hL
          · have hd : e.on ∈ dirs ops[j] := by
              unfold dirs
              exact List.mem_map.2 ⟨e, List.mem_filter.2 ⟨by simpa using he, hb⟩, rfl⟩
            have := H.dp.dir j _ (Array.getElem?_eq_getElem hj) _ hd
            exact ih e.on this (by omega)
        rw [hr] at hmem; simp at hmem
  intro fuel
  induction fuel with
  | zero =>
    intro L s β a w hsz hcl S h hE hc
    have hc0 : L.toList.count false = 0 := by omega
    have hall : ∀ j, j < ops.size → L.getD j false = true := by
      intro j hj
      have hjL : j < L.size := by omega
      cases hL : L.getD j false with
      | true => rfl
      | false =>
        have : false ∈ L.toList := by
          have : L[j] = false := by simpa [hjL] using hL
          rw [← this]; simp
        have := List.count_pos_iff.2 this
        omega
    refine ⟨?_, fin L s β a w hsz S h hE hall⟩
    apply List.eq_nil_iff_forall_not_mem.2
    intro i hi
    obtain ⟨h1, o, ho, _⟩ := mem_ready.1 hi
    have hin : i < ops.size := (Array.getElem?_eq_some_iff.1 ho).1
    have := hall i hin
    have hiL : i < L.size := by omega
    simp [hiL] at this h1
    rw [this] at h1; simp at h1
  | succ fuel ih =>
    intro L s β a w hsz hcl S h hE hc
    refine ⟨fun hr => fin L s β a w hsz S h hE (allOf L hsz hr), fun i hi => ?_⟩
    obtain ⟨h1, o, ho, hafter⟩ := mem_ready.1 hi
    have hin : i < ops.size := (Array.getElem?_eq_some_iff.1 ho).1
    have hiL : i < L.size := by omega
    have hLi : L[i] = false := by simpa [hiL] using h1
    have hd : ∀ j ∈ dirs o, L.getD j false = true := by
      intro j hj
      unfold dirs at hj
      obtain ⟨e, he, rfl⟩ := List.mem_map.1 hj
      obtain ⟨he, hb⟩ := List.mem_filter.1 he
      exact hafter e (by simpa using he) hb
    obtain ⟨s', hs', S'⟩ := S.next H hcl hsz ho (by simp [hiL, hLi]) hd
    have hstep := aop_sound (F := F) (n := n) (Q := Q) hF hΓ h hs'
    have hcl' : Cl ops (L.setIfInBounds i true) := by
      intro i' o' ho' hL' j hj
      by_cases e : i = i'
      · subst e
        rw [ho] at ho'; cases ho'
        exact getD_set_true (hd j hj)
      · have : L.getD i' false = true := by
          have : (L.setIfInBounds i true).getD i' false = L.getD i' false := by simp [Array.getElem?_setIfInBounds_ne e]
          rw [← this]; exact hL'
        exact getD_set_true (hcl i' o' ho' this j hj)
    have next : ∀ a' w', After C s β (fun d => o.dst = some d ∨ ∃ j want, o.guard = some (j, want) ∧ gslot ops j = some d) some s' a' w' → wpAnyIn F n P .any ops Q fuel (L.setIfInBounds i true) a' w' := by
      rintro a' w' ⟨s1, β1, e1, g1, g2⟩
      cases e1
      have hmem : ∀ (j : Nat) (oj : Oper), ops[j]? = some oj → ∀ d, oj.dst = some d → rdst ops d := fun j oj hj d hd => ⟨oj, Array.mem_of_getElem? hj, hd⟩
      have g2' : Ext (rdst ops) s s' β β1 := g2.mono fun d hd => by
        rcases hd with hd | ⟨j, want, _, hj⟩
        · exact hmem i o ho d hd
        · unfold gslot at hj
          cases hoj : ops[j]? with
          | none => simp [hoj] at hj
          | some oj => simp only [hoj] at hj; exact hmem j oj hoj d hj
      refine ih _ _ β1 a' w' (by simpa using hsz) hcl' S' (g1.norm o.dst) ((hE.trans g2').trans ((Ext.norm _ _ _).mono fun d hd => hmem i o ho d hd)) ?_
      have : L.toList[i]? = some false := by
        rw [Array.getElem?_toList, Array.getElem?_eq_getElem hiL, hLi]
      have := count_set this
      have e2 : (L.setIfInBounds i true).toList = L.toList.set i true := by simp
      rw [e2]
      omega
    unfold wpOpIn
    rw [ho]
    unfold OpOK at hstep
    dsimp only
    split
    · rename_i hw
      rw [if_pos hw] at hstep
      exact Oper.wpIn_mono next hstep
    · rename_i hw
      rw [if_neg hw] at hstep
      exact ⟨fun f _ => hF.fn f, next _ _ hstep⟩

theorem draw_sound {F : Fence} (hF : FW F) (hΓ : Γ.Sound P) (hm : P.follows .mixedOrders = true) {n : Nat} {Q : Exit → Act → World → Prop} {id : Nat} {R : Type} {k : AS → Option R} {r : R} (h : Rel C s β a w) (e : adraw P Γ ops s k = some r)
    (hQ : ∀ a' w', After C s β (rdst ops) k r a' w' → Q .normal a' w') : (Code.region id ops true).wpIn F n P Q a w := by
  obtain ⟨ts, HH, _, _, H⟩ := adraw_ref e
  refine wpIn_region_any hm (draw_any hF hΓ H hQ ops.size _ s β a _ (by simp) ?_ ?_ h.drew (Ext.refl _ _ _) ?_)
  · intro i o ho hL
    have hin : i < ops.size := (Array.getElem?_eq_some_iff.1 ho).1
    simp [hin] at hL
  · have hno : ∀ j, (Array.replicate ops.size false).getD j false = true → False := by
      intro j hL
      by_cases hj : j < ops.size <;> simp [hj] at hL
    exact ⟨rfl, fun j o d t _ hL => (hno j hL).elim, fun _ _ => rfl, rfl, 0, Nat.zero_le _, H.h0.symm, fun j o _ _ => ⟨fun hL => (hno j hL).elim, fun h => by omega⟩⟩
  · simp
end
end Go.Proofs.AM
end

section
namespace Go.Proofs.AM
open Go Go.RowKit

section
variable {C : Cx} {s : AS} {β : List Bl} {a : Act} {w : World}

theorem Rel.frm (h : Rel C s β a w) {f : Fr} (hf : f ∈ C.frs) : (∀ l ∈ f.marks, s.heap[l]? = some (true, AObj.mark)) ∧ ∀ (i : Nat) (x : TV), f.tmps[i]? = some x → x.lt β.length := by
  have q := h.frs f hf
  refine ⟨fun l hl => ?_, fun i x hx => TV.R_lt (q.tm i x hx)⟩
  obtain ⟨bs, _, hb⟩ := q.defers
  obtain ⟨b, r, _, _, e⟩ := hb.left l hl
  exact e
end
end Go.Proofs.AM
end

section
namespace Go.Proofs.AM
open Go Go.RowKit

section
variable {P : Program} {C : Cx} {s : AS} {β : List Bl} {a : Act} {w : World}

theorem Rel.enter (h : Rel C s β a w) {T : List TV} {vs : Array Value} (hsz : vs.size = T.length) (htm : ∀ (i : Nat) (t : TV), T[i]? = some t → t.R w (C.N s.heap β w) (C.fresh s.heap β w) β (vs.getD i undef)) :
    Rel (C.push s a) { tmps := T, heap := s.heap, marks := [] } β { tmps := vs, defers := [] } w where
  defers := ⟨[], rfl, trivial⟩
  tsize := hsz
  tm := htm
  bsize := h.bsize
  ob := h.ob
  occ := h.occ
  apart := h.apart
  keep := h.keep
  frs f hf := by
    rcases List.mem_cons.1 hf with rfl | hf
    · exact ⟨h.defers, h.tsize, h.tm⟩
    · exact h.frs f hf

theorem Rel.back {s2 : AS} {β2 : List Bl} {a2 : Act} {w2 : World} (h : Rel (C.push s a) s2 β2 a2 w2) : Rel C { s with heap := s2.heap } β2 a w2 := by
  have q := h.frs ⟨s.tmps, s.marks, a⟩ (List.mem_cons_self ..)
  exact { defers := q.defers, tsize := q.tsize, tm := q.tm, bsize := h.bsize, ob := h.ob, occ := h.occ, apart := h.apart, keep := h.keep, frs := fun f hf => h.frs f (List.mem_cons_of_mem _ hf) }

theorem Rel.flag (h : Rel C s β a w) {l : Nat} {f : Bool} {o : AObj} (ho : s.heap[l]? = some (f, o)) (hm : o ≠ .mark) (f' : Bool) : Rel C { s with heap := s.heap.set l (f', o) } β a w := by
  have hll : l < s.heap.length := (List.getElem?_eq_some_iff.1 ho).1
  have := h.gen (s.heap.set l (f', o)) [] w (fun _ => False) rfl rfl rfl (Nat.le_refl _) (by simp)
    (fun l1 o1 h1 _ => by
      by_cases e : l = l1
      · subst e; rw [ho] at h1; cases h1; exact ⟨(f', o), by simp [hll], rfl⟩
      · exact ⟨o1, by rw [List.getElem?_set_ne e]; exact h1, rfl⟩)
    (fun l1 _ h1 => by
      by_cases e : l = l1
      · subst e; rw [ho] at h1; cases h1; exact absurd rfl hm
      · rw [List.getElem?_set_ne e]; exact h1)
    (fun b hb _ => rfl)
    (fun l1 o1 r1 b h1 h2 h3 _ => by
      have h3 := h3.resolve_left id
      have := (List.getElem?_eq_some_iff.1 h1).1
      simp at this; omega)
    (fun l1 l2 o1 o2 r1 r2 b h1 h2 h1' h2' h3 _ _ _ => by
      have h3 := h3.resolve_left id
      have := (List.getElem?_eq_some_iff.1 h1).1
      simp at this; omega)
    (fun l1 o1 r1 h1 h2 h3 _ _ _ _ => by
      have h3 := h3.resolve_left id
      have := (List.getElem?_eq_some_iff.1 h1).1
      simp at this; omega)
  simpa using this.1

theorem Rel.set_flag {l : Nat} {f f' : Bool} {o' : AObj} (hl : l < s.heap.length) (hm : o' ≠ .mark) (h1 : Rel C { s with heap := s.heap.set l (f, o') } β a w) : Rel C { s with heap := s.heap.set l (f', o') } β a w := by
  have := h1.flag (l := l) (f := f) (o := o') (by simp [hl]) hm f'
  simpa using this

theorem Rel.lp_at (h : Rel C s β a w) {L : Nat} {f : Bool} {st : LS} (hL : s.heap[L]? = some (f, .lp st)) {rr : Bl} (hr : β[L]? = some rr) : ∃ rc : Loop, rr.rc = some rc ∧ w.heap[rr.blk]? = some (.loop { rc with state := st.st, pending := st.pe }) :=
  h.ob L _ rr hL hr

theorem Rel.lp_turn (h : Rel C s β a w) {L : Nat} {f : Bool} {st : LS} (hL : s.heap[L]? = some (f, .lp st)) {rr : Bl} (hr : β[L]? = some rr) {rc : Loop} (hrc : rr.rc = some rc) (st' : LS) (f' : Bool) :
    Rel C { s with heap := s.heap.set L (f', .lp st') } β a (w.putObj rr.blk (.loop { rc with state := st'.st, pending := st'.pe })) := by
  obtain ⟨rc', hrc', hw⟩ := h.lp_at hL hr
  rw [hrc] at hrc'; cases hrc'
  have hlt : rr.blk < w.heap.size := (Array.getElem?_eq_some_iff.1 hw).1
  have hll : L < s.heap.length := (List.getElem?_eq_some_iff.1 hL).1
  have := (h.upd (w' := w.putObj rr.blk (.loop { rc with state := st'.st, pending := st'.pe })) L _ (.lp st') rr hL hr rfl rfl rfl (by simp [World.putObj]) (fun b _ hb => World.putObj_heap_other (fun e => hb (by simp [AObj.occ, ← e]))) (by simp) (fun b hb => hb)
    (fun _ _ _ _ => ⟨rc, hrc, World.putObj_heap_same hlt⟩)).1
  exact Rel.set_flag hll (by simp) this

theorem Rel.lp_end (h : Rel C s β a w) {L : Nat} {f : Bool} {st : LS} (hL : s.heap[L]? = some (f, .lp st)) {rr : Bl} (hr : β[L]? = some rr) (ob : Obj) :
    Rel C { s with heap := s.heap.set L (true, .dead) } β a (w.putObj rr.blk ob) := by
  exact (h.upd (w' := w.putObj rr.blk ob) L _ .dead rr hL hr rfl rfl rfl (by simp [World.putObj]) (fun b _ hb => World.putObj_heap_other (fun e => hb (by simp [AObj.occ, ← e]))) (by simp) (fun b hb => by simp [AObj.occ] at hb)
    (fun _ _ _ _ => trivial)).1
end

def putArgs : List TV → List Tmp → List TV → List TV
  | T, p :: ps, t :: ts => putArgs (T.set p t) ps ts
  | T, _, _ => T

theorem putArgs_len : ∀ (T : List TV) (ps : List Tmp) (ts : List TV), (putArgs T ps ts).length = T.length
  | T, p :: ps, t :: ts => by simp [putArgs, putArgs_len]
  | T, [], _ => by simp [putArgs]
  | T, _ :: _, [] => by simp [putArgs]

theorem putArgs_R {w : World} {N Nf : Nat → Prop} {β : List Bl} : ∀ (ps : List Tmp) (ts : List TV) (T : List TV) (vs : Array Value) (us : List Value), vs.size = T.length → (∀ (i : Nat) (t : TV), T[i]? = some t → t.R w N Nf β (vs.getD i undef)) →
    All2 (TV.R w N Nf β) ts us → ∀ (i : Nat) (t : TV), (putArgs T ps ts)[i]? = some t → t.R w N Nf β (((ps.zip us).foldl (fun (tm : Array Value) p => tm.setIfInBounds p.1 p.2) vs).getD i undef)
  | [], ts, T, vs, us, hs, hT, hu, i, t, e => by simpa using hT i t (by simpa [putArgs] using e)
  | p :: ps, [], T, vs, [], hs, hT, hu, i, t, e => by simpa using hT i t (by simpa [putArgs] using e)
  | p :: ps, t0 :: ts, T, vs, u :: us, hs, hT, hu, i, t, e => by
    simp only [List.zip_cons_cons, List.foldl_cons]
    refine putArgs_R ps ts (T.set p t0) (vs.setIfInBounds p u) us (by simp [hs]) (fun j x hx => ?_) hu.2 i t e
    by_cases hp : p = j
    · subst hp
      by_cases hl : p < T.length
      · simp [hl] at hx; subst hx
        have : (vs.setIfInBounds p u).getD p undef = u := by simp [hs, hl]
        rw [this]; exact hu.1
      · simp [hl] at hx
    · rw [List.getElem?_set_ne hp] at hx
      have := hT j x hx
      simpa [Array.getElem?_setIfInBounds_ne hp] using this
  | p :: ps, [], T, vs, _ :: _, _, _, hu, _, _, _ => hu.elim
  | p :: ps, _ :: _, T, vs, [], _, _, hu, _, _, _ => hu.elim

theorem foldl_size : ∀ (l : List (Tmp × Value)) (vs : Array Value), (l.foldl (fun (tm : Array Value) p => tm.setIfInBounds p.1 p.2) vs).size = vs.size
  | [], _ => rfl
  | p :: l, vs => by simp [foldl_size l]
end Go.Proofs.AM
end

section
namespace Go.Proofs.AM
open Go Go.RowKit

noncomputable def adrawT {R : Type} (P : Program) (Γ : Env) (Γp : Env) (ops : Array Oper) (s : AS) (k : AS → Option R) : Option R := adraw P Γp ops s k

theorem drawT_sound {P : Program} {Γ Γp : Env} {ops : Array Oper} {C : Cx} {s : AS} {β : List Bl} {a : Act} {w : World} {F : Fence} (hF : FW F) (hΓ : Γ.Sound P) (hΓp : Γp.Sound P) (hm : P.follows .mixedOrders = true) (hY : YOK P C β Γ.yl) {n : Nat} {Q : Exit → Act → World → Prop} {id : Nat} {R : Type} {k : AS → Option R} {r : R} (h : Rel C s β a w) (e : adrawT P Γ Γp ops s k = some r)
    (hQ : ∀ a' w', After C s β (rdst ops) k r a' w' → Q .normal a' w') : (Code.region id ops true).wpIn F n P Q a w := draw_sound hF hΓp hm h e hQ
end Go.Proofs.AM
end
