/- How the relation goes on behind a step: frames. -/
import Derived.Test.YtefekolpfklhdaaAmA1
set_option maxRecDepth 2000
set_option linter.unusedVariables false
set_option linter.unusedSimpArgs false
namespace Go.Proofs.AM
open Go Go.RowKit

theorem AV.R_mono {w w' : World} {N Nf N' Nf' : Nat → Prop} {β β' : List Bl} (hb : ∀ b, N b → w'.heap[b]? = w.heap[b]?) (hN : ∀ b, N b → N' b)
    (hf : ∀ b, Nf b → N b) (hNf : ∀ b, Nf b → Nf' b) (hβ : ∀ (l : Nat) (r : Bl), β[l]? = some r → β'[l]? = some r) :
    ∀ (x : AV) (v : Value), x.R w N Nf β v → x.R w' N' Nf' β' v
  | .junk, _, _ => trivial
  | .dat k x true, _, h => K.rd_mono (fun b hb' => hb b (hf b hb')) hNf _ _ _ h
  | .dat k x false, _, h => K.rd_mono hb hN _ _ _ h
  | .nilsl, _, h => h
  | .nilp, _, h => h
  | .nilf, _, h => h
  | .ro k x off true, _, ⟨b, o, es, e, n, c, r⟩ => ⟨b, o, es, e, hNf _ n, c.block (hb _ (hf _ n)), K.rd_mono (fun b hb' => hb b (hf b hb')) hNf _ _ _ r⟩
  | .ro k x off false, _, ⟨b, o, es, e, n, c, r⟩ => ⟨b, o, es, e, hN _ n, c.block (hb _ n), K.rd_mono hb hN _ _ _ r⟩
  | .ptr l off, _, ⟨r, h, e⟩ => ⟨r, hβ _ _ h, e⟩
  | .vf l, _, ⟨r, A, c, h, e⟩ => ⟨r, A, c, hβ _ _ h, e⟩
  | .vw l off len, _, ⟨r, A, c, h, e⟩ => ⟨r, A, c, hβ _ _ h, e⟩
  | .vp l i off, _, ⟨r, h, e⟩ => ⟨r, hβ _ _ h, e⟩
  | .fn f caps, _, ⟨bs, e, h⟩ => ⟨bs, e, h.mono fun l b ⟨r, hr, e⟩ => ⟨r, hβ _ _ hr, e⟩⟩
  | .mp l, _, ⟨r, h, e⟩ => ⟨r, hβ _ _ h, e⟩
  | .yl l, _, ⟨r, h, e⟩ => ⟨r, hβ _ _ h, e⟩
  | .wk l, _, ⟨r, h, e⟩ => ⟨r, hβ _ _ h, e⟩
  | .nili, _, h => h
  | .ifc t a, _, ⟨u, e, h⟩ => ⟨u, e, AV.R_mono hb hN hf hNf hβ a u h⟩

theorem valR_mono {w w' : World} {N N' : Nat → Prop} (hb : ∀ b, N b → w'.heap[b]? = w.heap[b]?) (hN : ∀ b, N b → N' b) {p : Bool × K} {x : p.2.den} {v : Value} (h : valR w N p x v) : valR w' N' p x v := by
  unfold valR at h ⊢
  split at h
  · obtain ⟨cs, e, h⟩ := h; exact ⟨cs, e, K.rd_mono hb hN _ _ _ h⟩
  · exact K.rd_mono hb hN _ _ _ h

theorem entR_mono {w w' : World} {N N' : Nat → Prop} (hb : ∀ b, N b → w'.heap[b]? = w.heap[b]?) (hN : ∀ b, N b → N' b) {k v : Bool × K} {p : k.2.den × v.2.den} {e : MapEntry} (h : entR w N k v p e) : entR w' N' k v p e :=
  ⟨valR_mono hb hN h.1, valR_mono hb hN h.2⟩

section
variable {w w' : World} {N Nf N' Nf' : Nat → Prop} {β β' : List Bl}

theorem TV.R_mono (h : ∀ (x : AV) (v : Value), x.R w N Nf β v → x.R w' N' Nf' β' v) : ∀ (t : TV) (v : Value), t.R w N Nf β v → t.R w' N' Nf' β' v
  | .one a, v, x => h a v x
  | .agg cs, v, ⟨vs, e, x⟩ => ⟨vs, e, x.mono h⟩
  | .tup cs, v, ⟨vs, e, x⟩ => ⟨vs, e, x.mono fun c v y => by
      match c, y with
      | (true, cs), ⟨vs, e, y⟩ => exact ⟨vs, e, y.mono h⟩
      | (false, [a]), y => exact h a v y⟩

theorem AObj.R_mono (h : ∀ (x : AV) (v : Value), x.R w N Nf β v → x.R w' N' Nf' β' v)
    (hb : ∀ b, N b → w'.heap[b]? = w.heap[b]?) (hN : ∀ b, N b → N' b) (hf : ∀ b, Nf b → N b) (hNf : ∀ b, Nf b → Nf' b) (hβ : ∀ (l : Nat) (r : Bl), β[l]? = some r → β'[l]? = some r) (r : Bl) :
    ∀ (o : AObj), (∀ b, b ∈ o.occ r → w'.heap[b]? = w.heap[b]?) → o.R w N Nf β r → o.R w' N' Nf' β' r
  | .dead, _, _ => trivial
  | .box T cs, hk, ⟨vs, e, z, x⟩ => ⟨vs, by rw [hk r.blk (by simp [AObj.occ])]; exact e, z, x.mono h⟩
  | .mark, hk, x => by show w'.heap[r.blk]? = _; rw [hk r.blk (by simp [AObj.occ])]; exact x
  | .lp s, hk, ⟨rc, e, x⟩ => ⟨rc, e, by rw [hk r.blk (by simp [AObj.occ])]; exact x⟩
  | .map k v es fr, hk, ⟨l, ck, e, st, x⟩ => ⟨l, ck, by rw [hk r.blk (by simp [AObj.occ])]; exact e, st, x.mono fun a b y => by
      cases fr
      · exact entR_mono hb hN y
      · exact entR_mono (fun b hb' => hb b (hf b hb')) hNf y⟩
  | .walk m k v es left cur fr, hk, ⟨l, ck, seen, rm, e1, e2, ne, hm, hm2, st, x, y, z⟩ => by
      have mono : ∀ (a : k.2.den × v.2.den) (b : MapEntry), entR w (if fr then Nf else N) k v a b → entR w' (if fr then Nf' else N') k v a b := by
        intro a b y
        cases fr
        · exact entR_mono hb hN y
        · exact entR_mono (fun b hb' => hb b (hf b hb')) hNf y
      refine ⟨l, ck, seen, rm, by rw [hk r.base (by simp [AObj.occ])]; exact e1, by rw [hk r.blk (by simp [AObj.occ])]; exact e2, ne, hβ _ _ hm, hm2, st, x.mono mono, y.mono mono, ?_⟩
      cases cur with
      | none => exact z
      | some p => obtain ⟨e, he, hs, hp⟩ := z; exact ⟨e, he, hs, mono _ _ hp⟩
  | .vec T k xs fr, hk, ⟨h1, h2, h3, h4⟩ => by
    refine ⟨h1, h2, h3, ?_⟩
    by_cases hr : r.real = true
    · simp only [hr, if_true] at h4 ⊢
      obtain ⟨pre, mid, post, e, z, m, q⟩ := h4
      refine ⟨pre, mid, post, by rw [hk r.blk (by simp [AObj.occ, hr])]; exact e, z, m.mono fun a b y => ?_, q⟩
      cases fr
      · exact K.rd_mono hb hN _ _ _ y
      · exact K.rd_mono (fun b hb' => hb b (hf b hb')) hNf _ _ _ y
    · simp only [hr] at h4 ⊢
      exact h4
end

theorem Kept.refl (F : Nat → Prop) (w : World) : Kept F w w := ⟨rfl, rfl, rfl, Nat.le_refl _, fun _ _ _ => rfl⟩

theorem Cx.fresh_N {C : Cx} {h : List (Bool × AObj)} {β : List Bl} {w : World} {b : Nat} (x : C.fresh h β w b) : C.N h β w b := ⟨.inr x.1, x.2.1, x.2.2⟩

theorem get_app {α : Type} {l l' : List α} {i : Nat} {a : α} (h : l[i]? = some a) : (l ++ l')[i]? = some a := by
  rw [List.getElem?_append_left (List.getElem?_eq_some_iff.1 h).1]; exact h

theorem All2.imp {α β : Type} {R S : α → β → Prop} : ∀ {l : List α} {m : List β}, (∀ a ∈ l, ∀ b, R a b → S a b) → All2 R l m → All2 S l m
  | [], [], _, _ => trivial
  | x :: l, y :: m, hi, h => ⟨hi x (by simp) y h.1, All2.imp (fun a ha => hi a (by simp [ha])) h.2⟩
  | [], _ :: _, _, h => h.elim
  | _ :: _, [], _, h => h.elim

/-- The step in general: which objects have turned ('Ch'), which have come. -/
theorem Rel.gen {C : Cx} {s : AS} {β : List Bl} {a : Act} {w : World} (R : Rel C s β a w) (h' : List (Bool × AObj)) (δ : List Bl) (w' : World) (Ch : Nat → Prop)
    (hos : w'.os = w.os) (htape : w'.tape = w.tape) (hout : w'.output = w.output) (hsz : w.heap.size ≤ w'.heap.size)
    (hlen : h'.length = s.heap.length + δ.length)
    (hun : ∀ (l : Nat) (o : Bool × AObj), s.heap[l]? = some o → ¬ Ch l → ∃ o', h'[l]? = some o' ∧ o'.2 = o.2)
    (hmark : ∀ l, (l ∈ s.marks ∨ ∃ f ∈ C.frs, l ∈ f.marks) → s.heap[l]? = some (true, .mark) → h'[l]? = some (true, .mark))
    (hblk : ∀ b, b < w.heap.size → (∀ (l : Nat) (o : Bool × AObj) (r : Bl), s.heap[l]? = some o → β[l]? = some r → Ch l → b ∉ o.2.occ r) → w'.heap[b]? = w.heap[b]?)
    (hocc : ∀ (l : Nat) (o : Bool × AObj) (r : Bl) (b : Nat), h'[l]? = some o → (β ++ δ)[l]? = some r → (Ch l ∨ s.heap.length ≤ l) → b ∈ o.2.occ r →
      b < w'.heap.size ∧ (w.heap.size ≤ b ∨ ∃ (l0 : Nat) (o0 : Bool × AObj) (r0 : Bl), s.heap[l0]? = some o0 ∧ β[l0]? = some r0 ∧ Ch l0 ∧ b ∈ o0.2.occ r0))
    (hap : ∀ (l l' : Nat) (o o' : Bool × AObj) (r r' : Bl) (b : Nat), h'[l]? = some o → (β ++ δ)[l]? = some r → h'[l']? = some o' → (β ++ δ)[l']? = some r' →
      (Ch l ∨ s.heap.length ≤ l) → (Ch l' ∨ s.heap.length ≤ l') → b ∈ o.2.occ r → b ∈ o'.2.occ r' → l = l')
    (hR : ∀ (l : Nat) (o : Bool × AObj) (r : Bl), h'[l]? = some o → (β ++ δ)[l]? = some r → (Ch l ∨ s.heap.length ≤ l) →
      (∀ (x : AV) (v : Value), x.R w (C.N s.heap β w) (C.fresh s.heap β w) β v → x.R w' (C.N h' (β ++ δ) w') (C.fresh h' (β ++ δ) w') (β ++ δ) v) →
      (∀ b, C.N s.heap β w b → C.N h' (β ++ δ) w' b) → (∀ b, C.fresh s.heap β w b → C.fresh h' (β ++ δ) w' b) → (∀ b, C.N s.heap β w b → w'.heap[b]? = w.heap[b]?) →
      o.2.R w' (C.N h' (β ++ δ) w') (C.fresh h' (β ++ δ) w') (β ++ δ) r) :
    Rel C { s with heap := h' } (β ++ δ) a w' ∧
      (∀ (x : AV) (v : Value), x.R w (C.N s.heap β w) (C.fresh s.heap β w) β v → x.R w' (C.N h' (β ++ δ) w') (C.fresh h' (β ++ δ) w') (β ++ δ) v) := by
  have hold : ∀ (l : Nat) (o : Bool × AObj), h'[l]? = some o → ¬ (Ch l ∨ s.heap.length ≤ l) → ∃ o0 r0, s.heap[l]? = some o0 ∧ o.2 = o0.2 ∧ β[l]? = some r0 ∧ (β ++ δ)[l]? = some r0 := by
    intro l o ho hn
    have h1 : ¬ Ch l := fun x => hn (.inl x)
    have h2 : l < s.heap.length := Nat.lt_of_not_le fun x => hn (.inr x)
    obtain ⟨o0, e0⟩ : ∃ o0, s.heap[l]? = some o0 := ⟨_, List.getElem?_eq_getElem h2⟩
    obtain ⟨r0, er⟩ : ∃ r0, β[l]? = some r0 := ⟨_, List.getElem?_eq_getElem (by rw [R.bsize]; exact h2)⟩
    obtain ⟨o', e', e2⟩ := hun l o0 e0 h1
    rw [ho] at e'; cases e'
    exact ⟨o0, r0, e0, e2, er, get_app er⟩
  have hfree : ∀ b, b < w.heap.size → Free s.heap β b → Free h' (β ++ δ) b := by
    intro b hb hf l o r ho hr hx
    by_cases hn : Ch l ∨ s.heap.length ≤ l
    · obtain ⟨_, h⟩ := hocc l o r b ho hr hn hx
      rcases h with h | ⟨l0, o0, r0, e0, er0, _, hx0⟩
      · omega
      · exact hf l0 o0 r0 e0 er0 hx0
    · obtain ⟨o0, r0, e0, e2, er, er'⟩ := hold l o ho hn
      rw [hr] at er'; cases er'
      exact hf l o0 _ e0 er (e2 ▸ hx)
  have hN : ∀ b, C.N s.heap β w b → C.N h' (β ++ δ) w' b := fun b h => ⟨h.1, by have := h.2.1; omega, hfree b h.2.1 h.2.2⟩
  have hNf : ∀ b, C.fresh s.heap β w b → C.fresh h' (β ++ δ) w' b := fun b h => ⟨h.1, by have := h.2.1; omega, hfree b h.2.1 h.2.2⟩
  have hb : ∀ b, C.N s.heap β w b → w'.heap[b]? = w.heap[b]? := fun b h => hblk b h.2.1 fun l o r e1 e2 _ => h.2.2 l o r e1 e2
  have hv : ∀ (x : AV) (v : Value), x.R w (C.N s.heap β w) (C.fresh s.heap β w) β v → x.R w' (C.N h' (β ++ δ) w') (C.fresh h' (β ++ δ) w') (β ++ δ) v :=
    AV.R_mono hb hN (fun b h => Cx.fresh_N h) hNf (fun l r h => get_app h)
  refine ⟨?_, hv⟩
  refine { defers := ?_, tsize := R.tsize, tm := fun i t h => TV.R_mono hv _ _ (R.tm i t h), bsize := by simp [R.bsize, hlen], ob := ?_, occ := ?_, apart := ?_, keep := ?_
           frs := fun f hf => ?_ }
  · obtain ⟨bs, e, h⟩ := R.defers
    exact ⟨bs, e, h.imp fun l hl b ⟨r, e1, e2, e3⟩ => ⟨r, get_app e1, e2, hmark _ (.inl hl) e3⟩⟩
  · intro l o r ho hr
    by_cases hn : Ch l ∨ s.heap.length ≤ l
    · exact hR l o r ho hr hn hv hN hNf hb
    · obtain ⟨o0, r0, e0, e2, er, er'⟩ := hold l o ho hn
      rw [hr] at er'; cases er'
      show o.2.R _ _ _ _ _
      rw [e2]
      refine AObj.R_mono hv hb hN (fun b h => Cx.fresh_N h) hNf (fun l r h => get_app h) _ _ (fun b hx => hblk b (R.occ l o0 _ b e0 er hx).1 ?_) (R.ob l o0 _ e0 er)
      intro l1 o1 r1 e1 er1 hc hx1
      have := R.apart l l1 o0 o1 _ r1 b e0 er e1 er1 hx hx1
      exact hn (.inl (this ▸ hc))
  · intro l o r b ho hr hx
    by_cases hn : Ch l ∨ s.heap.length ≤ l
    · obtain ⟨h1, h⟩ := hocc l o r b ho hr hn hx
      refine ⟨h1, ?_⟩
      rcases h with h | ⟨l0, o0, r0, e0, er0, _, hx0⟩
      · exact .inl (by have := R.keep.size; omega)
      · exact (R.occ l0 o0 r0 b e0 er0 hx0).2
    · obtain ⟨o0, r0, e0, e2, er, er'⟩ := hold l o ho hn
      rw [hr] at er'; cases er'
      obtain ⟨h1, h2⟩ := R.occ l o0 _ b e0 er (e2 ▸ hx)
      exact ⟨by omega, h2⟩
  · intro l l' o o' r r' b ho hr ho' hr' hx hx'
    by_cases hn : Ch l ∨ s.heap.length ≤ l
    · by_cases hn' : Ch l' ∨ s.heap.length ≤ l'
      · exact hap l l' o o' r r' b ho hr ho' hr' hn hn' hx hx'
      · obtain ⟨o0, r0, e0, e2, er, er'⟩ := hold l' o' ho' hn'
        rw [hr'] at er'; cases er'
        obtain ⟨h1, h⟩ := hocc l o r b ho hr hn hx
        rcases h with h | ⟨l0, o1, r1, e1, er1, hc, hx0⟩
        · have := (R.occ l' o0 _ b e0 er (e2 ▸ hx')).1; omega
        · have := R.apart l0 l' o1 o0 r1 _ b e1 er1 e0 er hx0 (e2 ▸ hx')
          exact absurd (.inl (this ▸ hc)) hn'
    · obtain ⟨o0, r0, e0, e2, er, er'⟩ := hold l o ho hn
      rw [hr] at er'; cases er'
      by_cases hn' : Ch l' ∨ s.heap.length ≤ l'
      · obtain ⟨h1, h⟩ := hocc l' o' r' b ho' hr' hn' hx'
        rcases h with h | ⟨l0, o1, r1, e1, er1, hc, hx0⟩
        · have := (R.occ l o0 _ b e0 er (e2 ▸ hx)).1; omega
        · have := R.apart l0 l o1 o0 r1 _ b e1 er1 e0 er hx0 (e2 ▸ hx)
          exact absurd (.inl (this ▸ hc)) hn
      · obtain ⟨o0', r0', e0', e2', er', er''⟩ := hold l' o' ho' hn'
        rw [hr'] at er''; cases er''
        exact R.apart l l' o0 o0' _ _ b e0 er e0' er' (e2 ▸ hx) (e2' ▸ hx')
  · refine ⟨hos.trans R.keep.os, htape.trans R.keep.tape, hout.trans R.keep.output, by have := R.keep.size; omega, fun b hb hf => ?_⟩
    rw [← R.keep.block b hb hf]
    refine hblk b (by have := R.keep.size; omega) fun l o r e1 e2 _ hx => ?_
    rcases (R.occ l o r b e1 e2 hx).2 with h | h
    · omega
    · exact hf h
  · have q := R.frs f hf
    refine ⟨?_, q.tsize, fun i t h => TV.R_mono hv _ _ (q.tm i t h)⟩
    obtain ⟨bs, e, h⟩ := q.defers
    exact ⟨bs, e, h.imp fun l hl b ⟨r, e1, e2, e3⟩ => ⟨r, get_app e1, e2, hmark _ (.inr ⟨f, hf, hl⟩) e3⟩⟩

/-- A temporary is written. -/
def AS.put (s : AS) (d : Option Nat) (t : TV) : AS :=
  match d with
  | some i => { s with tmps := s.tmps.set i t }
  | none => s

theorem Rel.put {C : Cx} {s : AS} {β : List Bl} {a : Act} {w : World} (R : Rel C s β a w) (d : Option Nat) (t : TV) (v : Value)
    (h : t.R w (C.N s.heap β w) (C.fresh s.heap β w) β v) : Rel C (s.put d t) β (a.put d v) w := by
  cases d with
  | none => exact R
  | some d =>
    refine { R with tsize := by simp [AS.put, Act.put, R.tsize], tm := ?_ }
    intro i t' ht
    simp only [AS.put] at ht
    simp only [AS.put, Act.put]
    by_cases hi : d = i
    · subst hi
      by_cases hl : d < s.tmps.length
      · simp [hl] at ht
        subst ht
        simp [R.tsize, hl]
        exact h
      · simp [hl] at ht
    · rw [List.getElem?_set_ne hi] at ht
      have := R.tm i t' ht
      simpa [Array.getElem?_setIfInBounds_ne hi] using this

/-- The world has grown; nothing that was there has turned. -/
structure Grew (w w' : World) : Prop where
  os : w'.os = w.os
  tape : w'.tape = w.tape
  output : w'.output = w.output
  size : w.heap.size ≤ w'.heap.size
  block : ∀ b, b < w.heap.size → w'.heap[b]? = w.heap[b]?

theorem Grew.refl (w : World) : Grew w w := ⟨rfl, rfl, rfl, Nat.le_refl _, fun _ _ => rfl⟩
theorem Grew.trans {a b c : World} (h : Grew a b) (k : Grew b c) : Grew a c :=
  ⟨k.os.trans h.os, k.tape.trans h.tape, k.output.trans h.output, Nat.le_trans h.size k.size, fun i hi => (k.block i (Nat.lt_of_lt_of_le hi h.size)).trans (h.block i hi)⟩
theorem Grew.alloc (w : World) (o : Obj) : Grew w (w.alloc o) := ⟨rfl, rfl, rfl, by simp, fun b hb => Below.heap_alloc w o b hb⟩
theorem Grew.drew (w : World) : Grew w w.drew := ⟨rfl, rfl, rfl, Nat.le_refl _, fun _ _ => rfl⟩

theorem Rel.grew {C : Cx} {s : AS} {β : List Bl} {a : Act} {w w' : World} (R : Rel C s β a w) (g : Grew w w') :
    Rel C s β a w' ∧ (∀ (x : AV) (v : Value), x.R w (C.N s.heap β w) (C.fresh s.heap β w) β v → x.R w' (C.N s.heap β w') (C.fresh s.heap β w') β v) := by
  have := R.gen s.heap [] w' (fun _ => False) g.os g.tape g.output g.size (by simp) (fun l o h _ => ⟨o, h, rfl⟩) (fun l _ h => h) (fun b hb _ => g.block b hb)
    (fun l o r b ho hr hn => by
      rcases hn with hn | hn
      · exact hn.elim
      · have := (List.getElem?_eq_some_iff.1 ho).1; omega)
    (fun l l' o o' r r' b ho hr ho' hr' hn => by
      rcases hn with hn | hn
      · exact hn.elim
      · have := (List.getElem?_eq_some_iff.1 ho).1; omega)
    (fun l o r ho hr hn => by
      rcases hn with hn | hn
      · exact hn.elim
      · have := (List.getElem?_eq_some_iff.1 ho).1; omega)
  simpa using this

/-- A new object, in a block that has just come. -/
theorem Rel.push {C : Cx} {s : AS} {β : List Bl} {a : Act} {w w' : World} (R : Rel C s β a w) (g : Grew w w') (o : AObj) (r : Bl)
    (hocc : ∀ b, b ∈ o.occ r → w.heap.size ≤ b ∧ b < w'.heap.size)
    (hR : (∀ (x : AV) (v : Value), x.R w (C.N s.heap β w) (C.fresh s.heap β w) β v → x.R w' (C.N (s.heap ++ [(true, o)]) (β ++ [r]) w') (C.fresh (s.heap ++ [(true, o)]) (β ++ [r]) w') (β ++ [r]) v) →
      (∀ b, C.N s.heap β w b → C.N (s.heap ++ [(true, o)]) (β ++ [r]) w' b) → (∀ b, C.fresh s.heap β w b → C.fresh (s.heap ++ [(true, o)]) (β ++ [r]) w' b) →
      o.R w' (C.N (s.heap ++ [(true, o)]) (β ++ [r]) w') (C.fresh (s.heap ++ [(true, o)]) (β ++ [r]) w') (β ++ [r]) r) :
    Rel C { s with heap := s.heap ++ [(true, o)] } (β ++ [r]) a w' ∧
      (∀ (x : AV) (v : Value), x.R w (C.N s.heap β w) (C.fresh s.heap β w) β v → x.R w' (C.N (s.heap ++ [(true, o)]) (β ++ [r]) w') (C.fresh (s.heap ++ [(true, o)]) (β ++ [r]) w') (β ++ [r]) v) := by
  have new : ∀ (l : Nat) (o1 : Bool × AObj) (r1 : Bl), (s.heap ++ [(true, o)])[l]? = some o1 → (β ++ [r])[l]? = some r1 → s.heap.length ≤ l → l = s.heap.length ∧ o1 = (true, o) ∧ r1 = r := by
    intro l o1 r1 h1 h2 h3
    have hl : l = s.heap.length := by have := (List.getElem?_eq_some_iff.1 h1).1; simp at this; omega
    subst hl
    refine ⟨rfl, by simpa using h1.symm, ?_⟩
    rw [← R.bsize] at h2; simpa using h2.symm
  refine R.gen (s.heap ++ [(true, o)]) [r] w' (fun _ => False) g.os g.tape g.output g.size (by simp) (fun l o h _ => ⟨o, get_app h, rfl⟩) (fun l _ h => get_app h) (fun b hb _ => g.block b hb)
    ?_ ?_ ?_
  · intro l o1 r1 b h1 h2 h3 hx
    obtain ⟨_, rfl, rfl⟩ := new l o1 r1 h1 h2 (h3.resolve_left id)
    obtain ⟨h4, h5⟩ := hocc b hx
    exact ⟨h5, .inl h4⟩
  · intro l l' o1 o1' r1 r1' b h1 h2 h1' h2' h3 h3' _ _
    have := (new l o1 r1 h1 h2 (h3.resolve_left id)).1
    have := (new l' o1' r1' h1' h2' (h3'.resolve_left id)).1
    omega
  · intro l o1 r1 h1 h2 h3 k1 k2 k3 _
    obtain ⟨_, rfl, rfl⟩ := new l o1 r1 h1 h2 (h3.resolve_left id)
    exact hR k1 k2 k3

/-- An object turns in place. -/
theorem Rel.upd {C : Cx} {s : AS} {β : List Bl} {a : Act} {w w' : World} (R : Rel C s β a w) (l : Nat) (o : Bool × AObj) (o' : AObj) (r : Bl) (ho : s.heap[l]? = some o) (hr : β[l]? = some r)
    (hos : w'.os = w.os) (htape : w'.tape = w.tape) (hout : w'.output = w.output) (hsz : w.heap.size ≤ w'.heap.size)
    (hblk : ∀ b, b < w.heap.size → b ∉ o.2.occ r → w'.heap[b]? = w.heap[b]?) (hm : o.2 ≠ .mark)
    (hocc : ∀ b, b ∈ o'.occ r → b ∈ o.2.occ r)
    (hR : (∀ (x : AV) (v : Value), x.R w (C.N s.heap β w) (C.fresh s.heap β w) β v → x.R w' (C.N (s.heap.set l (true, o')) β w') (C.fresh (s.heap.set l (true, o')) β w') β v) →
      (∀ b, C.N s.heap β w b → C.N (s.heap.set l (true, o')) β w' b) → (∀ b, C.fresh s.heap β w b → C.fresh (s.heap.set l (true, o')) β w' b) → (∀ b, C.N s.heap β w b → w'.heap[b]? = w.heap[b]?) →
      o'.R w' (C.N (s.heap.set l (true, o')) β w') (C.fresh (s.heap.set l (true, o')) β w') β r) :
    Rel C { s with heap := s.heap.set l (true, o') } β a w' ∧
      (∀ (x : AV) (v : Value), x.R w (C.N s.heap β w) (C.fresh s.heap β w) β v → x.R w' (C.N (s.heap.set l (true, o')) β w') (C.fresh (s.heap.set l (true, o')) β w') β v) := by
  have hll : l < s.heap.length := (List.getElem?_eq_some_iff.1 ho).1
  have only : ∀ (l1 : Nat) (o1 : Bool × AObj), (s.heap.set l (true, o'))[l1]? = some o1 → (l1 = l ∨ s.heap.length ≤ l1) → l1 = l ∧ o1 = (true, o') := by
    intro l1 o1 h1 h2
    have : l1 = l := by
      rcases h2 with h2 | h2
      · exact h2
      · have := (List.getElem?_eq_some_iff.1 h1).1; simp at this; omega
    subst this
    refine ⟨rfl, ?_⟩
    simp [hll] at h1; exact h1.symm
  have := R.gen (s.heap.set l (true, o')) [] w' (fun x => x = l) hos htape hout hsz (by simp)
    (fun l1 o1 h1 hn => ⟨o1, by rw [List.getElem?_set_ne (Ne.symm hn)]; exact h1, rfl⟩)
    (fun l1 _ h1 => by
      by_cases e : l1 = l
      · subst e; rw [ho] at h1; cases h1; exact absurd rfl hm
      · rw [List.getElem?_set_ne (Ne.symm e)]; exact h1)
    (fun b hb h => hblk b hb (h l o r ho hr rfl))
    (fun l1 o1 r1 b h1 h2 h3 hx => by
      obtain ⟨rfl, rfl⟩ := only l1 o1 h1 h3
      simp only [List.append_nil] at h2
      rw [hr] at h2; cases h2
      have h4 := hocc b hx
      exact ⟨by have := (R.occ _ o _ b ho hr h4).1; omega, .inr ⟨_, o, r, ho, hr, rfl, h4⟩⟩)
    (fun l1 l2 o1 o2 r1 r2 b h1 h2 h1' h2' h3 h3' _ _ => by
      have := (only l1 o1 h1 h3).1
      have := (only l2 o2 h1' h3').1
      omega)
    (fun l1 o1 r1 h1 h2 h3 k1 k2 k3 k4 => by
      obtain ⟨rfl, rfl⟩ := only l1 o1 h1 h3
      simp only [List.append_nil] at *
      rw [hr] at h2; cases h2
      exact hR k1 k2 k3 k4)
  simpa using this
end Go.Proofs.AM
