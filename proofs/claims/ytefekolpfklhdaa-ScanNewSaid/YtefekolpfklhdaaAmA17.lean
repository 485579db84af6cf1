/- Telling a state by data: that it is one. -/
import Derived.Test.YtefekolpfklhdaaAmA16
set_option maxRecDepth 2000
set_option linter.unusedVariables false
set_option linter.unusedSimpArgs false
namespace Go.Proofs.AM
open Go Go.RowKit

/-- The place of an owned row of cells: where it lay, or nowhere yet. -/
def recOf (β : List Bl) (k : K) : Option Nat → Option Bl
  | some l => β[l]?
  | none => some ⟨0, 0, k.size, 0, 0, false, none⟩

section
variable {C : Cx} {s : AS} {β β' : List Bl} {a : Act} {w : World}

theorem decV_some {h : Heap} {T : TypeId} {k : K} {fr : Bool} {x : AV} {xs : List k.den} {l : Option Nat} (e : decV h T k fr x = some (xs, l)) :
    (x = .nilsl ∧ xs = [] ∧ l = none) ∨ ∃ m f, x = .vf m ∧ l = some m ∧ hat h m = .vec T k xs f ∧ (fr = true → f = true) := by
  unfold decV at e
  split at e
  · simp only [Option.some.injEq, Prod.mk.injEq] at e
    exact .inl ⟨rfl, e.1.symm, e.2.symm⟩
  · rename_i m
    split at e
    · rename_i T' k' xs' f ho
      split at e
      · rename_i hc
        split at e
        · rename_i hk
          subst hk
          simp only [Option.some.injEq, Prod.mk.injEq] at e
          obtain ⟨rfl, rfl⟩ := e
          obtain ⟨rfl, hf⟩ := hc
          exact .inr ⟨m, f, rfl, rfl, ho, fun hfr => by simpa [hfr] using hf⟩
        · simp at e
      · simp at e
    · simp at e
  · simp at e

theorem decS_enc (h : Rel C s β a w) {sk : SK} {t : TV} {v : Value} (ht : t.R w (C.N s.heap β w) (C.fresh s.heap β w) β v) {x : sk.kind.den} {l : Option Nat} (e : decS s.heap sk t = some (x, l)) (m : Nat)
    (hm : ∀ T k fr, sk = .v T k fr → β'[m]? = recOf β k l) : (encS m sk x).R w (C.N s.heap β w) (C.fresh s.heap β w) β' v := by
  cases sk with
  | d agg k fr =>
    simp only [decS] at e
    split at e
    rotate_left
    · simp at e
    rename_i x' f hk
    split at e
    rotate_left
    · simp at e
    rename_i hf
    simp only [Option.some.injEq, Prod.mk.injEq] at e
    obtain ⟨rfl, _⟩ := e
    have hfr : fr = true → f = true := fun hh => by simpa [hh] using hf
    split at hk
    · rename_i cs
      obtain ⟨vs, rfl, hc⟩ := ht
      have hr := of_sound h hc hk
      have hr' : k.rd w (if fr = true then C.fresh s.heap β w else C.N s.heap β w) x' vs := K.rd_mono (fun _ _ => rfl) (fun b hb => by
        cases f
        · have : fr = false := by cases fr; rfl; exact absurd (hfr rfl) (by simp)
          subst this; exact hb
        · cases fr
          · exact Cx.fresh_N hb
          · exact hb) _ _ _ hr
      exact ⟨vs, rfl, K.cells_R fr k _ _ hr'⟩
    · rename_i y
      have hr := of_sound h (l := [y]) (vs := [v]) ⟨ht, trivial⟩ hk
      have hr' : k.rd w (if fr = true then C.fresh s.heap β w else C.N s.heap β w) x' [v] := K.rd_mono (fun _ _ => rfl) (fun b hb => by
        cases f
        · have : fr = false := by cases fr; rfl; exact absurd (hfr rfl) (by simp)
          subst this; exact hb
        · cases fr
          · exact Cx.fresh_N hb
          · exact hb) _ _ _ hr
      have hc := K.cells_R (N := C.N s.heap β w) (Nf := C.fresh s.heap β w) (β := β') fr k _ _ hr'
      show TV.R w _ _ β' ((shapeTV false (K.cells fr k x')).getD (.one .junk)) v
      generalize K.cells fr k x' = cc at hc ⊢
      match cc, hc with
      | [c], hc => exact hc.1
    · simp at hk
  | v T k fr =>
    simp only [decS] at e
    split at e
    · rename_i y
      have hm := hm T k fr rfl
      rcases decV_some e with ⟨rfl, rfl, rfl⟩ | ⟨l', f, rfl, rfl, ho, _⟩
      · have ht : v = .slice none 0 0 := ht
        subst ht
        exact ⟨⟨0, 0, k.size, 0, 0, false, none⟩, none, 0, hm, rfl, Nat.le_refl _, .inr ⟨rfl, rfl⟩⟩
      · obtain ⟨r, A, c, hr, e1, e2, e3⟩ := ht
        exact ⟨r, A, c, by rw [hm]; exact hr, e1, e2, e3⟩
    · simp at e

/-- The object that such a slot brings. -/
theorem decS_obj (h : Rel C s β a w) {T : TypeId} {k : K} {fr : Bool} {t : TV} {x : List k.den} {l : Option Nat} (e : decS s.heap (.v T k fr) t = some (x, l)) {m : Nat} {src : Nat → Option Nat} (hsrc : src m = l)
    (hm : β'[m]? = recOf β k l) (hd : Bool) : ObjOK C s β β' w src m (hd, .vec T k x fr) := by
  simp only [decS] at e
  split at e
  · rcases decV_some e with ⟨rfl, rfl, rfl⟩ | ⟨l', f, rfl, rfl, ho, hf⟩
    · exact .inr ⟨_, hm, ⟨rfl, rfl, Nat.le_refl _, rfl⟩, .inl rfl⟩
    · obtain ⟨ff, r, h1, h2, g1, g2, g3, g4⟩ := h.obj ho (by simp)
      refine .inr ⟨r, by rw [hm]; exact h2, ⟨g1, g2, g3, ?_⟩, .inr ⟨l', _, hsrc, h1, h2, rfl⟩⟩
      by_cases hreal : r.real = true
      · simp only [hreal, if_true] at g4 ⊢
        obtain ⟨pre, mid, post, hh, hp, hrow, hcap⟩ := g4
        refine ⟨pre, mid, post, hh, hp, rows_weak (fun _ _ => rfl) (fun b hb => ?_) hrow, hcap⟩
        exact fl_weak hb hf
      · simp only [hreal] at g4 ⊢
        exact g4
  · simp at e

/-- A mark of this activation, or of one that waits. -/
def AllMarks (C : Cx) (s : AS) (l : Nat) : Prop := l ∈ s.marks ∨ ∃ f ∈ C.frs, l ∈ f.marks

theorem Rel.mark_all (h : Rel C s β a w) {l : Nat} (hl : AllMarks C s l) : s.heap[l]? = some (true, .mark) := by
  rcases hl with hl | ⟨f, hf, hl⟩
  · exact h.mark_at hl
  · obtain ⟨bs, _, hb⟩ := (h.frs f hf).defers
    obtain ⟨b, r, _, _, e⟩ := hb.left l hl
    exact e

structure Inv (C : Cx) (s : AS) (β β' : List Bl) (a : Act) (w : World) (src : Nat → Option Nat) (th : List TV × Heap) : Prop where
  it : ∀ (i : Nat) (x : TV), th.1[i]? = some x → x.R w (C.N s.heap β w) (C.fresh s.heap β w) β' (a.tmps.getD i undef)
  io : ∀ (j : Nat) (o : Bool × AObj), th.2[j]? = some o → ObjOK C s β β' w src j o
  im : ∀ l, AllMarks C s l → th.2[l]? = some (true, AObj.mark)
  tl : th.1.length = s.tmps.length

theorem Inv.setSlot {src : Nat → Option Nat} {th : List TV × Heap} (I : Inv C s β β' a w src th) (i : Nat) {x : TV} (hx : x.R w (C.N s.heap β w) (C.fresh s.heap β w) β' (a.tmps.getD i undef)) : Inv C s β β' a w src (th.1.set i x, th.2) := by
  refine ⟨fun j y hy => ?_, I.io, I.im, by simp [I.tl]⟩
  by_cases e : i = j
  · subst e
    by_cases hl : i < th.1.length
    · simp [hl] at hy; subst hy; exact hx
    · simp [hl] at hy
  · simp only [List.getElem?_set_ne e] at hy
    exact I.it j y hy

theorem Inv.pushObj {src : Nat → Option Nat} {th : List TV × Heap} (I : Inv C s β β' a w src th) {os : Heap} (ho : ∀ j o, os[j]? = some o → ObjOK C s β β' w src (th.2.length + j) o) : Inv C s β β' a w src (th.1, th.2 ++ os) := by
  refine ⟨I.it, fun j o hj => ?_, fun l hl => get_app (I.im l hl), I.tl⟩
  by_cases hl : j < th.2.length
  · rw [List.getElem?_append_left hl] at hj; exact I.io j o hj
  · rw [List.getElem?_append_right (by omega)] at hj
    have := ho (j - th.2.length) o hj
    rwa [show th.2.length + (j - th.2.length) = j by omega] at this

theorem Inv.setObj {src : Nat → Option Nat} {th : List TV × Heap} (I : Inv C s β β' a w src th) (l : Nat) {o : Bool × AObj} (ho : ObjOK C s β β' w src l o) (hn : ¬ AllMarks C s l) : Inv C s β β' a w src (th.1, th.2.set l o) := by
  refine ⟨I.it, fun j o' hj => ?_, fun m hm => ?_, I.tl⟩
  · by_cases e : l = j
    · subst e
      by_cases hl : l < th.2.length
      · simp [hl] at hj; subst hj; exact ho
      · simp [hl] at hj
    · simp only [List.getElem?_set_ne e] at hj
      exact I.io j o' hj
  · have e : l ≠ m := fun e => hn (e ▸ hm)
    simp only [List.getElem?_set_ne e]
    exact I.im m hm

/-- The places of the owned rows that are told. -/
def recsOf (β : List Bl) : List Item → List (Option Nat) → List (Option Bl)
  | [], _ => []
  | .slot _ (.v _ k _) :: r, l :: ls => recOf β k l :: recsOf β r ls
  | .cell _ _ (.v _ k _) :: r, l :: ls => recOf β k l :: recsOf β r ls
  | _ :: r, ls => recsOf β r ls

theorem encI_len (hd : Bool) (it : Item) (x : it.kind.den) (th : List TV × Heap) (hb : ∀ l j sk, it = .cell l j sk → ∃ T cs, hat th.2 l = .box T cs) : (encI hd it x th).2.length = th.2.length + (if it.owns then 1 else 0) := by
  obtain ⟨t, h⟩ := th
  cases it with
  | slot i sk => cases sk <;> simp [encI, encO, Item.owns]
  | cell l j sk =>
    obtain ⟨T, cs, hb⟩ := hb l j sk rfl
    unfold encI
    simp only [hb]
    cases sk <;> simp [encO, Item.owns]
  | vec l T k fr => simp [encI, Item.owns]
  | map l k v fr => simp [encI, Item.owns]
  | lp l st => simp [encI, Item.owns]

/-- One item. -/
theorem Inv.item (h : Rel C s β a w) {src : Nat → Option Nat} {th : List TV × Heap} (I : Inv C s β β' a w src th) (hd : Bool) {it : Item} {x : it.kind.den} {l : Option Nat} (e : decI s it = some (x, l))
    (hm : ∀ k, it.owns = true → it.kind = .sl k → β'[th.2.length]? = recOf β k l ∧ src th.2.length = l)
    (hsrc : ∀ l j sk, it = .cell l j sk → src l = some l ∧ β'[l]? = β[l]?) (hsrc' : ∀ l ∈ vecsOf [it], src l = some l ∧ β'[l]? = β[l]?) :
    Inv C s β β' a w src (encI hd it x th) := by
  obtain ⟨t, hh⟩ := th
  have newobj : ∀ (sk : SK) (tv : TV) (y : sk.kind.den), decS s.heap sk tv = some (y, l) → (∀ T k fr, sk = .v T k fr → β'[hh.length]? = recOf β k l ∧ src hh.length = l) →
      ∀ j o, (encO hd sk y)[j]? = some o → ObjOK C s β β' w src (hh.length + j) o := by
    intro sk tv y hy hsk j o ho
    cases sk with
    | d agg k fr => simp [encO] at ho
    | v T k fr =>
      obtain ⟨h1, h2⟩ := hsk T k fr rfl
      cases j with
      | zero => simp [encO] at ho; subst ho; exact decS_obj h hy h2 h1 _
      | succ j => simp [encO] at ho
  cases it with
  | slot i sk =>
    simp only [decI] at e
    split at e
    rotate_left
    · simp at e
    rename_i tv htv
    have hsk : ∀ T k fr, sk = .v T k fr → β'[hh.length]? = recOf β k l ∧ src hh.length = l := fun T k fr e => by subst e; exact hm k rfl rfl
    have h1 := (I.pushObj (newobj sk tv x e hsk)).setSlot i (x := encS hh.length sk x) (decS_enc h (h.tm i tv htv) e _ (fun T k fr e => (hsk T k fr e).1))
    exact h1
  | cell m j sk =>
    simp only [decI] at e
    split at e
    rotate_left
    · simp at e
    rename_i T0 cs0 hb0
    split at e
    rotate_left
    · simp at e
    rename_i c hc
    have hsk : ∀ T k fr, sk = .v T k fr → β'[hh.length]? = recOf β k l ∧ src hh.length = l := fun T k fr e => by subst e; exact hm k rfl rfl
    unfold encI
    dsimp only
    split
    rotate_left
    · exact I
    rename_i T cs hb
    obtain ⟨f0, r0, g1, g2, vs0, g3, g4, g5⟩ := h.obj hb0 (by simp)
    obtain ⟨v, hv, hcv⟩ := g5.get hc
    have hr := decS_enc h (t := .one c) hcv e hh.length (fun T k fr e => (hsk T k fr e).1)
    obtain ⟨f1, hf1⟩ := hat_eq hb (by simp)
    obtain ⟨s1, s2⟩ := hsrc m j sk rfl
    have hob := I.io m _ hf1
    rcases hob with hd' | ⟨r, k1, ⟨vs, k2, k3, k4⟩, k5⟩
    · simp at hd'
    rw [s2, g2] at k1
    cases k1
    rw [g3] at k2
    have hvs : vs = vs0 := by
      simp only [Option.some.injEq, Obj.cells.injEq] at k2
      have := congrArg Array.toList k2.1
      simpa using this.symm
    subst hvs
    have hT : T0 = T := by simp only [Option.some.injEq, Obj.cells.injEq] at k2; exact k2.2.1
    subst hT
    have hset : ObjOK C s β β' w src m (!hd, .box T0 (cs.set j (match encS hh.length sk x with | .one a => a | _ => .junk))) := by
      refine .inr ⟨r0, by rw [s2]; exact g2, ⟨vs.set j v, ?_, k3, k4.set j ?_⟩, .inr ⟨m, _, s1, g1, g2, rfl⟩⟩
      · rw [g3]
        have hj := (List.getElem?_eq_some_iff.1 hv)
        congr 2
        rw [← hj.2]; simp
      · generalize encS hh.length sk x = ee at hr
        cases ee with
        | one a => exact hr
        | agg _ => trivial
        | tup _ => trivial
    have h1 := (I.setObj m hset (fun hm => by have := h.mark_all hm; rw [g1] at this; simp at this))
    have h2 := h1.pushObj (os := encO hd sk x) (fun j' o ho => by
      have := newobj sk (.one c) x e hsk j' o ho
      simpa using this)
    exact h2
  | vec m T k fr =>
    simp only [decI] at e
    split at e
    rotate_left
    · simp at e
    rename_i T' k' xs' f ho
    split at e
    rotate_left
    · simp at e
    rename_i hc
    split at e
    rotate_left
    · simp at e
    rename_i hk
    subst hk
    simp only [Option.some.injEq, Prod.mk.injEq] at e
    obtain ⟨rfl, rfl⟩ := e
    obtain ⟨rfl, hf⟩ := hc
    obtain ⟨f0, r, g1, g2, g3, g4, g5, g6⟩ := h.obj ho (by simp)
    obtain ⟨s1, s2⟩ := hsrc' m (by simp [vecsOf])
    refine I.setObj m ?_ (fun hm => by have := h.mark_all hm; rw [g1] at this; simp at this)
    refine .inr ⟨r, by rw [s2]; exact g2, ⟨g3, g4, g5, ?_⟩, .inr ⟨m, _, s1, g1, g2, rfl⟩⟩
    by_cases hreal : r.real = true
    · simp only [hreal, if_true] at g6 ⊢
      obtain ⟨pre, mid, post, hh, hp, hrow, hcap⟩ := g6
      refine ⟨pre, mid, post, hh, hp, rows_weak (fun _ _ => rfl) (fun b hb => ?_) hrow, hcap⟩
      exact fl_weak hb (fun hfr => by simpa [hfr] using hf)
    · simp only [hreal] at g6 ⊢
      exact g6
  | map m k v fr =>
    simp only [decI] at e
    split at e
    rotate_left
    · simp at e
    rename_i k' v' es' f ho
    split at e
    rotate_left
    · simp at e
    rename_i hf
    split at e
    rotate_left
    · simp at e
    rename_i hk
    subst hk
    split at e
    rotate_left
    · simp at e
    rename_i hk
    subst hk
    simp only [Option.some.injEq, Prod.mk.injEq] at e
    obtain ⟨rfl, rfl⟩ := e
    obtain ⟨f0, r, g1, g2, l0, ck, g3, g4, g5⟩ := h.obj ho (by simp)
    obtain ⟨s1, s2⟩ := hsrc' m (by simp [vecsOf])
    refine I.setObj m ?_ (fun hm => by have := h.mark_all hm; rw [g1] at this; simp at this)
    refine .inr ⟨r, by rw [s2]; exact g2, ⟨l0, ck, g3, g4, g5.mono fun p q hp => entR_mono (fun _ _ => rfl) (fun b hb => fl_weak hb (fun hfr => by simpa [hfr] using hf)) hp⟩, .inr ⟨m, _, s1, g1, g2, rfl⟩⟩
  | lp m st =>
    simp only [decI] at e
    split at e
    rotate_left
    · simp at e
    rename_i st' ho
    split at e
    rotate_left
    · simp at e
    rename_i hs
    subst hs
    obtain ⟨f0, r, g1, g2, rc, g3, g4⟩ := h.obj ho (by simp)
    obtain ⟨s1, s2⟩ := hsrc' m (by simp [vecsOf])
    refine I.setObj m ?_ (fun hm => by have := h.mark_all hm; rw [g1] at this; simp at this)
    exact .inr ⟨r, by rw [s2]; exact g2, ⟨rc, g3, g4⟩, .inr ⟨m, _, s1, g1, g2, rfl⟩⟩

theorem owns_kind {it : Item} (h : it.owns = true) : ∃ T k fr, (∃ i, it = .slot i (.v T k fr)) ∨ (∃ l j, it = .cell l j (.v T k fr)) := by
  cases it with
  | slot i sk => cases sk with
    | d _ _ _ => simp [Item.owns] at h
    | v T k fr => exact ⟨T, k, fr, .inl ⟨i, rfl⟩⟩
  | cell l j sk => cases sk with
    | d _ _ _ => simp [Item.owns] at h
    | v T k fr => exact ⟨T, k, fr, .inr ⟨l, j, rfl⟩⟩
  | vec _ _ _ _ => simp [Item.owns] at h
  | map _ _ _ _ => simp [Item.owns] at h
  | lp _ _ => simp [Item.owns] at h

theorem recsOf_cons {it : Item} {r : List Item} {l : Option Nat} {ls : List (Option Nat)} (h : it.owns = true) {k : K} (hk : it.kind = .sl k) : recsOf β (it :: r) (l :: ls) = recOf β k l :: recsOf β r ls := by
  obtain ⟨T, k', fr, ⟨i, rfl⟩ | ⟨m, j, rfl⟩⟩ := owns_kind h
  · simp only [Item.kind, SK.kind, K.sl.injEq] at hk; subst hk; rfl
  · simp only [Item.kind, SK.kind, K.sl.injEq] at hk; subst hk; rfl

theorem recsOf_skip {it : Item} {r : List Item} {ls : List (Option Nat)} (h : it.owns = false) : recsOf β (it :: r) ls = recsOf β r ls := by
  cases it with
  | slot i sk => cases sk with
    | d _ _ _ => rfl
    | v T k fr => simp [Item.owns] at h
  | cell l j sk => cases sk with
    | d _ _ _ => rfl
    | v T k fr => simp [Item.owns] at h
  | vec _ _ _ _ => rfl
  | map _ _ _ _ => rfl
  | lp _ _ => rfl

/-- All items. -/
theorem Inv.items (h : Rel C s β a w) {src : Nat → Option Nat} (hd : Bool) : ∀ (la : List Item) (x : KU (LA.kinds la)) (ls : List (Option Nat)) (th : List TV × Heap), decL s la = some (x, ls) → Inv C s β β' a w src th →
    (∀ i l, ls[i]? = some l → src (th.2.length + i) = l) →
    (∀ i o, (recsOf β la ls)[i]? = some o → β'[th.2.length + i]? = o) →
    (∀ l ∈ boxesOf la ++ vecsOf la, src l = some l ∧ β'[l]? = β[l]? ∧ l < th.2.length) →
    (∀ l ∈ boxesOf la, ∃ T cs, hat th.2 l = .box T cs) → (∀ l ∈ boxesOf la, l ∉ vecsOf la) →
    Inv C s β β' a w src (encL hd la x th) ∧ (encL hd la x th).2.length = th.2.length + ls.length
  | [], x, ls, th, e, I, _, _, _, _, _ => by
    simp [decL] at e
    obtain ⟨_, rfl⟩ := e
    exact ⟨I, rfl⟩
  | it :: r, x, ls, th, e, I, h1, h2, h3, h4, h5 => by
    unfold decL at e
    split at e
    rotate_left
    · simp at e
    rename_i x1 l y ls' e1 e2
    simp only [Option.some.injEq, Prod.mk.injEq] at e
    obtain ⟨rfl, rfl⟩ := e
    have hown : ∀ k, it.owns = true → it.kind = .sl k → β'[th.2.length]? = recOf β k l ∧ src th.2.length = l := by
      intro k ho hk
      rw [if_pos ho] at h1 h2
      rw [recsOf_cons ho hk] at h2
      exact ⟨by simpa using h2 0 _ rfl, by simpa using h1 0 l rfl⟩
    have I2 := I.item h hd e1 hown (fun m j sk e => by subst e; have := h3 m (by simp [boxesOf]); exact ⟨this.1, this.2.1⟩) (fun m hm => by have := h3 m (by refine List.mem_append.2 (.inr ?_); cases it <;> simp_all [vecsOf]); exact ⟨this.1, this.2.1⟩)
    have hlen := encI_len hd it x1 th (fun m j sk e => by subst e; exact h4 m (by simp [boxesOf]))
    have keep : ∀ m ∈ boxesOf r, ∃ T cs, hat (encI hd it x1 th).2 m = .box T cs := by
      intro m hm
      have hmb : m ∈ boxesOf (it :: r) := by cases it <;> simp [boxesOf, hm]
      obtain ⟨T, cs, hb⟩ := h4 m hmb
      obtain ⟨f, hf⟩ := hat_eq hb (by simp)
      have hml := (List.getElem?_eq_some_iff.1 hf).1
      obtain ⟨t, hh⟩ := th
      cases it with
      | slot i sk =>
        refine ⟨T, cs, ?_⟩
        simp only [encI, hat]
        rw [List.getElem?_append_left hml, hf]
      | cell m' j sk =>
        obtain ⟨T', cs', hb'⟩ : ∃ T' cs', hat hh m' = .box T' cs' := h4 m' (by simp [boxesOf])
        simp only [encI, hb']
        by_cases em : m' = m
        · subst em
          have e2 : ∀ (x : Bool × AObj) (y : Heap), (hh.set m' x ++ y)[m']? = some x := fun x y => by
            rw [List.getElem?_append_left (by simpa using hml), List.getElem?_set_self hml]
          simp only [hat, e2]
          exact ⟨_, _, rfl⟩
        · refine ⟨T, cs, ?_⟩
          simp only [hat]
          rw [List.getElem?_append_left (by simpa using hml), List.getElem?_set_ne em, hf]
      | vec m' T' k fr =>
        have hne : m' ≠ m := fun e => by subst e; exact h5 m' hmb (by simp [vecsOf])
        refine ⟨T, cs, ?_⟩
        simp only [encI, hat]
        rw [List.getElem?_set_ne hne, hf]
      | map m' k v fr =>
        have hne : m' ≠ m := fun e => by subst e; exact h5 m' hmb (by simp [vecsOf])
        refine ⟨T, cs, ?_⟩
        simp only [encI, hat]
        rw [List.getElem?_set_ne hne, hf]
      | lp m' st =>
        have hne : m' ≠ m := fun e => by subst e; exact h5 m' hmb (by simp [vecsOf])
        refine ⟨T, cs, ?_⟩
        simp only [encI, hat]
        rw [List.getElem?_set_ne hne, hf]
    have sub : ∀ m, m ∈ boxesOf r ++ vecsOf r → m ∈ boxesOf (it :: r) ++ vecsOf (it :: r) := by
      intro m hm
      rcases List.mem_append.1 hm with hm | hm
      · refine List.mem_append.2 (.inl ?_); cases it <;> simp [boxesOf, hm]
      · refine List.mem_append.2 (.inr ?_); cases it <;> simp [vecsOf, hm]
    have hb5 : ∀ m ∈ boxesOf r, m ∉ vecsOf r := fun m hm hv => h5 m (by cases it <;> simp [boxesOf, hm]) (by cases it <;> simp [vecsOf, hv])
    cases hoc : it.owns with
    | true =>
      rw [if_pos hoc] at hlen
      rw [if_pos hoc] at h1 h2
      obtain ⟨T, k', fr, hcase⟩ := owns_kind hoc
      have hk : it.kind = .sl k' := by rcases hcase with ⟨i, rfl⟩ | ⟨m, j, rfl⟩ <;> rfl
      rw [recsOf_cons hoc hk] at h2
      have := Inv.items h hd r y ls' (encI hd it x1 th) e2 I2 (fun i l hl => by
          have := h1 (i + 1) l (by simpa using hl)
          rwa [hlen, show th.2.length + 1 + i = th.2.length + (i + 1) by omega])
        (fun i o ho => by
          have := h2 (i + 1) o (by simpa using ho)
          rwa [hlen, show th.2.length + 1 + i = th.2.length + (i + 1) by omega])
        (fun m hm => by obtain ⟨q1, q2, q3⟩ := h3 m (sub m hm); exact ⟨q1, q2, by omega⟩) keep hb5
      refine ⟨this.1, ?_⟩
      show (encL hd r y (encI hd it x1 th)).2.length = _
      rw [this.2, hlen]; simp; omega
    | false =>
      rw [hoc] at h1 h2 hlen
      simp only [Bool.false_eq_true, if_false] at h1 h2 hlen
      rw [recsOf_skip hoc] at h2
      have := Inv.items h hd r y ls' (encI hd it x1 th) e2 I2 (fun i l hl => by
          rw [hlen]; exact h1 i l hl)
        (fun i o ho => by
          rw [hlen]; exact h2 i o ho)
        (fun m hm => by obtain ⟨q1, q2, q3⟩ := h3 m (sub m hm); exact ⟨q1, q2, by omega⟩) keep hb5
      refine ⟨this.1, ?_⟩
      show (encL hd r y (encI hd it x1 th)).2.length = _
      rw [this.2, hlen]; simp
end
end Go.Proofs.AM
