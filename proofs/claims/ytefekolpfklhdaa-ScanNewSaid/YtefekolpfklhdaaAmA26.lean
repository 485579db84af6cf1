/- Code, as a function that the kernel reckons. -/
import Derived.Test.YtefekolpfklhdaaAmM4
import Derived.LoopNIn
set_option maxRecDepth 2000
set_option linter.unusedVariables false
set_option linter.unusedSimpArgs false
namespace Go.Proofs.AM
open Go Go.RowKit

/-! ### the ways out of a loop -/
abbrev Exits := List (Option Nat × LA)

@[reducible] def ES : Exits → Type
  | [] => Empty
  | p :: es => match es with
    | [] => KT (LA.kinds p.2)
    | q :: r => KT (LA.kinds p.2) ⊕ ES (q :: r)

def ES.mk : (es : Exits) → Option Nat → ((la : LA) → Option (KT (LA.kinds la))) → Option (ES es)
  | [], _, _ => none
  | [p], key, dec => if p.1 = key then dec p.2 else none
  | p :: q :: r, key, dec => if p.1 = key then (dec p.2).map .inl else (ES.mk (q :: r) key dec).map .inr

def ES.elim {R : Type} : (es : Exits) → ES es → ((key : Option Nat) → (la : LA) → KT (LA.kinds la) → R) → R
  | [], e, _ => nomatch e
  | [p], x, f => f p.1 p.2 x
  | p :: q :: r, x, f => match x with
    | .inl x => f p.1 p.2 x
    | .inr y => ES.elim (q :: r) y f

theorem ES.elim_mk {R : Type} {f : (key : Option Nat) → (la : LA) → KT (LA.kinds la) → R} {dec : (la : LA) → Option (KT (LA.kinds la))} {key : Option Nat} : ∀ {es : Exits} {e : ES es}, ES.mk es key dec = some e →
    ∃ la x, dec la = some x ∧ ES.elim es e f = f key la x
  | [], e, _ => nomatch e
  | [p], e, h => by
    unfold ES.mk at h
    split at h
    · rename_i hk
      exact ⟨p.2, e, h, by rw [← hk]; rfl⟩
    · simp at h
  | p :: q :: r, e, h => by
    unfold ES.mk at h
    split at h
    · rename_i hk
      cases hd : dec p.2 with
      | none => simp [hd] at h
      | some x =>
        simp only [hd, Option.map_some, Option.some.injEq] at h
        subst h
        exact ⟨p.2, x, hd, by rw [← hk]; rfl⟩
    · cases hd : ES.mk (q :: r) key dec with
      | none => simp [hd] at h
      | some y =>
        simp only [hd, Option.map_some, Option.some.injEq] at h
        subst h
        exact ES.elim_mk (es := q :: r) hd

structure LoopAnn where
  head : LA
  ks : List Nat
  exits : Exits
  walk : Option Nat := none

/-- What is told: at the loops, by the number of the block about each; behind a piece of code, by the number of the first region of what follows. -/
structure Ann where
  loops : List (Nat × LoopAnn)
  cuts : List (Nat × LA × List Nat)

def look {α : Type} (b : Nat) : List (Nat × α) → Option α
  | [] => none
  | p :: r => if p.1 = b then some p.2 else look b r

/-- A loop's annotation: where memory is of this length, or wherever. -/
def lookL {α : Type} (b n : Nat) (l : List (Nat × α)) : Option α := match look (b + 1000 * (n + 1)) l with
  | some x => some x
  | none => look b l

/-- The first region of a piece of code. -/
def Code.fst : Code → Option Nat
  | .region id _ _ => some id
  | .seq a b => match Code.fst a with
    | some i => some i
    | none => Code.fst b
  | .cond _ a b => match Code.fst a with
    | some i => some i
    | none => Code.fst b
  | .block _ c => Code.fst c
  | .loop c => Code.fst c
  | .rangeFunc _ _ a b => match Code.fst a with
    | some i => some i
    | none => Code.fst b
  | _ => none

def Ann.cut (an : Ann) (c : Code) : Option (LA × List Nat) := match an.cuts with
  | [] => none
  | l => match Code.fst c with
    | none => none
    | some i => look i l

/-- A state at which nothing has turned yet. -/
def AS.calm (s : AS) : AS := enc true s [] [] [] ()

/-- A state told over another. 'hb': what was told at the head. -/
def decAt (s : AS) (D ks hb : List Nat) (la : LA) (s' : AS) : Option (KT (LA.kinds la)) :=
  match decL s' la with
  | some (xu, ls) => if (okL s.heap s'.heap D ks la ls && unchFrom (ks ++ boxesOf la ++ vecsOf la) s.heap s'.heap 0 && hb.all (boxesOf la ++ vecsOf la).contains && s'.marks.length == s.marks.length) = true then some (KT.down xu) else none
  | none => none

/-- A state told over itself. -/
def decIn (s : AS) (D ks : List Nat) (la : LA) : Option (KT (LA.kinds la)) :=
  match decL s la with
  | some (xu, ls) => if okL s.heap s.heap D ks la ls = true then some (KT.down xu) else none
  | none => none

def Code.dsts : Code → List Nat
  | .region _ ops _ => ops.toList.filterMap Oper.dst
  | .seq a b => Code.dsts a ++ Code.dsts b
  | .cond _ a b => Code.dsts a ++ Code.dsts b
  | .block _ c => Code.dsts c
  | .loop c => Code.dsts c
  | .rangeFunc _ ps a b => ps.toList ++ Code.dsts a ++ Code.dsts b
  | .scope c => Code.dsts c
  | _ => []

structure Kt (R : Type) where
  norm : AS → Option R
  exit : Nat → AS → Option R
  ret : AS → Option R

def Kt.at {R : Type} (K : Kt R) : Exit → AS → Option R
  | .normal, s => K.norm s
  | .exit i, s => K.exit i s
  | .ret, s => K.ret s
  | _, _ => none

/-- The state in which a condition is known. -/
def AS.know (s : AS) (c : Operand) (b : Bool) : AS := match c with
  | .tmp d => s.put (some d) (litTV b)
  | _ => s

/-- The environment of a region that draws its order: no call is carried out in place. -/
def Env.plain (Γ : Env) : Env := { Γ with inl := fun _ => none, yl := [] }

/-- A loop over a function is entered: its mark (at an outermost one), its record. -/
def rangeIn (s : AS) : Option Nat → Option AS
  | none => some { s with heap := s.heap ++ [(true, .mark)] ++ [(true, .lp .ready)], marks := s.heap.length :: s.marks }
  | some L => match hat s.heap L with
    | .lp _ => some { s with heap := s.heap ++ [(true, .lp .ready)] }
    | _ => none

/-- A round has ended. -/
def roundEnd {R : Type} (L : Nat) (f : Bool) (st : LS) (k : Heap → TV → Option R) (s : AS) : Option R := match hat s.heap L with
  | .lp .busy => k (s.heap.set L (f, .lp st)) (.one (.dat .bool (st == .ready) true))
  | _ => none

/-! ### loops over maps -/
/-- Whatever comes next, the end is the same. -/
def goodM {A X E : Type} (f : A → List A → X → Option (X ⊕ E)) (fin : X → Option (X ⊕ E)) : Nat → List A → X → E → Prop
  | 0, L, x, e => L = [] ∧ fin x = some (.inr e)
  | n + 1, L, x, e => ∀ (j : Nat) (p : A), L[j]? = some p → match f p (L.eraseIdx j) x with
    | some (.inl y) => goodM f fin n (L.eraseIdx j) y e
    | some (.inr e') => e' = e
    | none => False

open Classical in
/-- A loop over a map: what it comes to, where that does not hang on the order. -/
noncomputable def anyM {A X E : Type} (f : A → List A → X → Option (X ⊕ E)) (fin : X → Option (X ⊕ E)) (L : List A) (x : X) : Option E :=
  if h : ∃ e, goodM f fin L.length L x e then some (Classical.choose h) else none

theorem anyM_some {A X E : Type} {f : A → List A → X → Option (X ⊕ E)} {fin : X → Option (X ⊕ E)} {L : List A} {x : X} {e : E} (h : anyM f fin L x = some e) : goodM f fin L.length L x e := by
  unfold anyM at h
  split at h
  · rename_i hh
    simp only [Option.some.injEq] at h
    subst h
    exact Classical.choose_spec hh
  · simp at h

/-- The state in which a loop over a map is over. -/
def unwalk (s : AS) (l m : Nat) (k v : Bool × K) (es : List (k.2.den × v.2.den)) (fr : Bool) : AS := (s.upd l .dead).upd m (.map k v es fr)

def laFree (l : Nat) (la : LA) : Bool := !(boxesOf la ++ vecsOf la).contains l

def walkOK (s : AS) (D : List Nat) (L : LoopAnn) (it l m : Nat) : Bool :=
  l != m && !D.contains it && !L.ks.contains l && !L.ks.contains m && (match s.heap[m]? with
    | some (_, .dead) => true
    | _ => false) && laFree l L.head && laFree m L.head && L.exits.all fun p => laFree l p.2 && laFree m p.2

noncomputable def walkLoop (P : Program) (Γ : Env) (D : List Nat) (L : LoopAnn) (s : AS) (ops : Array Oper) (ol : List Oper) (d l m : Nat) (k v : Bool × K) (es left : List (k.2.den × v.2.den)) (fr : Bool)
    (run : AS → Kt (KT (LA.kinds L.head) ⊕ ES L.exits) → Option (KT (LA.kinds L.head) ⊕ ES L.exits)) {R : Type} (K : Kt R) : Option R :=
  match decIn s D L.ks L.head with
  | none => none
  | some x0 => match anyM (X := KT (LA.kinds L.head)) (E := ES L.exits)
      (fun p lf x => aops P Γ ops ol ((enc true (s.upd l (.walk m k v es lf (some p) fr)) D L.ks L.head x).put (some d) (.tup [(false, [.dat .bool true true]), (k.1, k.2.cells fr p.1), (v.1, v.2.cells fr p.2)])) fun s1 => run s1 {
        norm := fun s' => (decAt (s.upd l (.walk m k v es lf (some p) fr)) D L.ks (boxesOf L.head ++ vecsOf L.head) L.head s').map .inl
        exit := fun i s' => (ES.mk L.exits (some i) (fun la => decAt (s.upd l (.walk m k v es lf (some p) fr)) D L.ks (boxesOf L.head ++ vecsOf L.head) la s')).map .inr
        ret := fun s' => (ES.mk L.exits none (fun la => decAt (s.upd l (.walk m k v es lf (some p) fr)) D L.ks (boxesOf L.head ++ vecsOf L.head) la s')).map .inr })
      (fun x => aops P Γ ops ol ((enc true (unwalk s l m k v es fr) D L.ks L.head x).put (some d) (.tup [(false, [.dat .bool false true])])) fun s1 => run s1 {
        norm := fun _ => none
        exit := fun i s' => (ES.mk L.exits (some i) (fun la => decAt (unwalk s l m k v es fr) D L.ks (boxesOf L.head ++ vecsOf L.head) la s')).map .inr
        ret := fun s' => (ES.mk L.exits none (fun la => decAt (unwalk s l m k v es fr) D L.ks (boxesOf L.head ++ vecsOf L.head) la s')).map .inr })
      left x0 with
    | none => none
    | some e => ES.elim L.exits e fun key la x => match key with
      | some i => K.exit i (enc false (unwalk s l m k v es fr) D L.ks la x)
      | none => K.ret (enc false (unwalk s l m k v es fr) D L.ks la x)

noncomputable def arun (P : Program) (Γ : Env) (an : Ann) : Code → (R : Type) → Option Nat → Nat → AS → Kt R → Option R
  | .skip, _, _, _, s, K => K.norm s
  | .region _ ops draw, _, _, _, s, K => match draw with
    | true => adraw P Γ.plain ops s K.norm
    | false => aops P Γ ops ops.toList s K.norm
  | .seq x y, R, rd, b, s, K => match an.cut y with
    | none => arun P Γ an x R rd b s { K with norm := fun s' => arun P Γ an y R rd b s' K }
    | some (la, ks) => match arun P Γ an x (KT (LA.kinds la)) rd b s.calm { norm := fun s' => decAt s (Code.dsts x) ks [] la s', exit := fun _ _ => none, ret := fun _ => none } with
      | none => none
      | some v => arun P Γ an y R rd b (enc false s (Code.dsts x) ks la v) K
  | .cond c x y, R, rd, b, s, K => match s.ev c with
    | .one (.dat .bool t true) => cond t (arun P Γ an x R rd b (s.know c true) K) (arun P Γ an y R rd b (s.know c false) K)
    | _ => none
  | .block id c, R, rd, _, s, K => arun P Γ an c R rd id s { K with exit := fun i s' => if i = id then K.norm s' else K.exit i s' }
  | .loop c, R, rd, b, s, K => match lookL b s.heap.length an.loops with
    | none => none
    | some L => match L.walk with
     | none => match decIn s (Code.dsts c) L.ks L.head with
      | none => none
      | some x0 => match loopM (X := KT (LA.kinds L.head)) (E := ES L.exits) (fun x => arun P Γ an c (KT (LA.kinds L.head) ⊕ ES L.exits) rd b (enc true s (Code.dsts c) L.ks L.head x) {
            norm := fun s' => (decAt s (Code.dsts c) L.ks (boxesOf L.head ++ vecsOf L.head) L.head s').map .inl
            exit := fun i s' => (ES.mk L.exits (some i) (fun la => decAt s (Code.dsts c) L.ks (boxesOf L.head ++ vecsOf L.head) la s')).map .inr
            ret := fun s' => (ES.mk L.exits none (fun la => decAt s (Code.dsts c) L.ks (boxesOf L.head ++ vecsOf L.head) la s')).map .inr }) x0 with
        | none => none
        | some e => ES.elim L.exits e fun key la x => match key with
          | some i => K.exit i (enc false s (Code.dsts c) L.ks la x)
          | none => K.ret (enc false s (Code.dsts c) L.ks la x)
     | some it => match c with
      | .seq (.region id ops false) rest => match s.tmps[it]? with
        | some (.one (.wk l)) => match hat s.heap l with
          | .walk m k v es left none fr => if walkOK s (Code.dsts (.seq (.region id ops false) rest)) L it l m = true then match ops.toList with
            | o1 :: ol => match o1.op, o1.guard, o1.dst with
              | .next (.tmp it') false, none, some d => if it' = it then
                  walkLoop P Γ (Code.dsts (.seq (.region id ops false) rest)) L s ops ol d l m k v es left fr (fun s1 K1 => arun P Γ an rest (KT (LA.kinds L.head) ⊕ ES L.exits) rd b s1 K1) K
                else none
              | _, _, _ => none
            | [] => none
            else none
          | _ => none
        | _ => none
      | _ => none
  | .rangeFunc g ps assign body, R, rd, b, s, K => match s.ev g with
    | .one (.fn gf caps) => match Γ.inl gf, rangeIn s rd with
      | some d, some s1 =>
        d.run ((s1.heap.length - 1, fun R' h ts k => match h[s1.heap.length - 1]? with
            | some (f, .lp .ready) => if ts.length = ps.size then
                arun P Γ an assign R' (some (s1.heap.length - 1)) b { tmps := putArgs s1.tmps ps.toList ts, heap := h, marks := [] } {
                  norm := fun s2 => match hat s2.heap (s1.heap.length - 1) with
                    | .lp .ready => arun P Γ an body R' (some (s1.heap.length - 1)) b { s2 with heap := s2.heap.set (s1.heap.length - 1) (true, .lp .busy) } {
                        norm := roundEnd (s1.heap.length - 1) f .ready k
                        exit := fun i => roundEnd (s1.heap.length - 1) true (.exit i) k
                        ret := roundEnd (s1.heap.length - 1) true .ret k }
                    | _ => none
                  exit := fun _ _ => none
                  ret := fun _ => none }
              else none
            | _ => none) :: Γ.yl) R s1.heap (.one (.yl (s1.heap.length - 1)) :: caps.map (fun l => .one (.ptr l 0)))
          (fun h _ => match hat h (s1.heap.length - 1) with
            | .lp .ready => K.norm { s1 with heap := h.set (s1.heap.length - 1) (true, .dead) }
            | .lp .ret => K.ret { s1 with heap := h.set (s1.heap.length - 1) (true, .dead) }
            | .lp (.exit i) => K.exit i { s1 with heap := h.set (s1.heap.length - 1) (true, .dead) }
            | _ => none)
      | _, _ => none
    | _ => none
  | .exit i, _, _, _, s, K => K.exit i s
  | .ret, _, _, _, s, K => K.ret s
  | _, _, _, _, _, _ => none

section
variable {P : Program} {Γ : Env} {C : Cx} {F : Fence} {n : Nat}

def Post (C : Cx) (s : AS) (β : List Bl) (d : Nat → Prop) {R : Type} (K : Kt R) (r : R) (e : Exit) (a' : Act) (w' : World) : Prop :=
  ∃ s' β', K.at e s' = some r ∧ Rel C s' β' a' w' ∧ Ext d s s' β β'

theorem know_same {s : AS} {c : Operand} {b : Bool} (e : s.ev c = .one (.dat .bool b true)) : s.know c b = s := by
  cases c with
  | tmp d =>
    have hd : s.tmps[d]? = some (.one (.dat .bool b true)) := by
      simp only [AS.ev] at e
      cases hx : s.tmps[d]? with
      | none => simp [hx] at e
      | some t => simp [hx] at e; rw [e]
    exact put_same hd
  | _ => rfl

theorem unchFrom_ok {skip : List Nat} : ∀ {h0 h : Heap} {i : Nat}, unchFrom skip h0 h i = true → h0.length ≤ h.length ∧ ∀ (l : Nat) (o : Bool × AObj), h0[l]? = some o → (i + l) ∉ skip → ∃ p, h[l]? = some p ∧ (p.1 = false ∨ (o.1 = true ∧ o.2.isMark = true))
  | [], h, i, _ => ⟨by simp, fun l o hl => by simp at hl⟩
  | _ :: _, [], i, e => by simp [unchFrom] at e
  | o :: h0, p :: h, i, e => by
    simp only [unchFrom, Bool.and_eq_true, Bool.or_eq_true] at e
    obtain ⟨e1, e2⟩ := e
    obtain ⟨i1, i2⟩ := unchFrom_ok e2
    refine ⟨by simp; omega, fun l q hl hs => ?_⟩
    cases l with
    | zero =>
      simp only [List.getElem?_cons_zero, Option.some.injEq] at hl
      subst hl
      refine ⟨p, rfl, ?_⟩
      rcases e1 with (h | h) | h
      · exact absurd (by simpa using h) hs
      · left; simpa using h
      · right; exact h
    | succ l => exact i2 l q (by simpa using hl) (by rwa [show i + 1 + l = i + (l + 1) by omega])

theorem isMark_eq {o : AObj} (h : o.isMark = true) : o = .mark := by cases o <;> simp [AObj.isMark] at h; rfl

/-- At the end of a round, or out of a loop. -/
theorem decAt_sound {s s' : AS} {β β' : List Bl} {a : Act} {w : World} {D ks hb : List Nat} {la : LA} {y : KT (LA.kinds la)} {S : AS} {βh : List Bl}
    (hf : s.Fine C) (hs : β.length = s.heap.length) (hβ : ∃ δ, βh = β ++ δ) (h : Rel C s' β' a w) (hE : Ext (· ∈ D) S s' βh β') (hlen : s.heap.length ≤ S.heap.length) (htl : S.tmps.length = s.tmps.length) (hms : S.marks = s.marks)
    (htm : ∀ i, i ∉ D → S.tmps[i]? = s.tmps[i]?)
    (hobj : ∀ (l : Nat) (o : Bool × AObj), s.heap[l]? = some o → l ∉ ks → l ∉ hb → S.heap[l]? = some ((o.1 && o.2.isMark), o.2))
    (e : decAt s D ks hb la s' = some y) (hd : Bool) :
    (∃ β2, Rel C (enc hd s D ks la y) β2 a w ∧ ∃ δ, β2 = β ++ δ) ∧ ∃ ls h', okL s.heap h' D ks la ls = true := by
  unfold decAt at e
  split at e
  rotate_left
  · simp at e
  rename_i xu ls hdec
  split at e
  rotate_left
  · simp at e
  rename_i hc
  simp only [Option.some.injEq] at e
  subst e
  simp only [Bool.and_eq_true] at hc
  obtain ⟨⟨⟨hok, hun⟩, hhb⟩, hmk⟩ := hc
  obtain ⟨ms, hmm⟩ := hE.mks
  have hmarks : s'.marks = s.marks := by
    rw [hms] at hmm
    have hl : s'.marks.length = s.marks.length := by simpa using hmk
    rw [hmm] at hl
    have : ms = [] := by
      cases ms with
      | nil => rfl
      | cons _ _ => simp at hl; omega
    rw [hmm, this]; rfl
  obtain ⟨u1, u2⟩ := unchFrom_ok hun
  obtain ⟨δ1, rfl⟩ := hβ
  obtain ⟨δ2, rfl⟩ := hE.bx
  refine ⟨?_, ls, s'.heap, hok⟩
  have hun' : ∀ (l : Nat) (o : Bool × AObj), s.heap[l]? = some o → l ∉ ks → l ∉ boxesOf la ++ vecsOf la → ∃ f, s'.heap[l]? = some (f, o.2) := by
    intro l o hl1 hk hbx
    obtain ⟨p, hp, hp2⟩ := u2 l o hl1 (by
      rw [Nat.zero_add]
      simp only [List.append_assoc, List.mem_append, not_or] at hbx ⊢
      exact ⟨hk, hbx.1, hbx.2⟩)
    have hnb : l ∉ hb := fun hm => by
      rw [List.all_eq_true] at hhb
      exact hbx (by simpa using hhb l hm)
    have hh := hobj l o hl1 hk hnb
    rcases hp2 with hp2 | ⟨hp2, hp3⟩
    · obtain ⟨p1, p2⟩ := p
      simp only at hp2
      subst hp2
      have := hE.hp l p2 (by have := (List.getElem?_eq_some_iff.1 hl1).1; omega) hp
      rw [hh] at this
      simp only [Option.some.injEq, Prod.mk.injEq] at this
      exact ⟨false, by rw [hp, this.2]⟩
    · have hmm' := isMark_eq hp3
      rw [hp2, hp3] at hh
      have := hE.hm l (by rw [hh, hmm']; rfl)
      exact ⟨true, by rw [this, hmm']⟩
  obtain ⟨β2, g1, g2⟩ := h.reenc hf hdec hok (by rw [hE.tl, htl]) hmarks (fun i hi => by rw [hE.tm i hi, htm i hi]) (Nat.le_trans hlen hE.hl) hun' hd
  exact ⟨β2, g1, g2 β (δ1 ++ δ2) (by simp) hs⟩

/-- What a head is. -/
theorem head_facts' {s : AS} {D ks : List Nat} {la : LA} (hsl : ∀ i ∈ slotsOf la, i ∈ D) (x : KT (LA.kinds la)) :
    s.heap.length ≤ (enc true s D ks la x).heap.length ∧ (enc true s D ks la x).tmps.length = s.tmps.length ∧ (∀ i, i ∉ D → (enc true s D ks la x).tmps[i]? = s.tmps[i]?) ∧
    ∀ (l : Nat) (o : Bool × AObj), s.heap[l]? = some o → l ∉ ks → l ∉ boxesOf la ++ vecsOf la → (enc true s D ks la x).heap[l]? = some ((o.1 && o.2.isMark), o.2) := by
  refine ⟨?_, ?_, fun i hi => ?_, fun l o hl hk hb => ?_⟩
  · show _ ≤ (encL true la _ _).2.length
    refine Nat.le_trans ?_ (encL_le _ _ _)
    show _ ≤ (baseHeapFrom true ks (boxesOf la ++ vecsOf la) s.heap 0).length
    rw [base_len]; exact Nat.le_refl _
  · show (encL true la _ _).1.length = _
    rw [encL_tl]; exact junkAll_len _ _
  · show (encL true la _ _).1[i]? = _
    rw [encL_tm la _ _ (fun hh => hi (hsl i hh))]
    exact junkAll_tm D _ hi
  · show (encL true la _ _).2[l]? = _
    rw [encL_keep la _ _ (by show l < (baseHeapFrom true ks (boxesOf la ++ vecsOf la) s.heap 0).length; rw [base_len]; exact (List.getElem?_eq_some_iff.1 hl).1) hb]
    show (baseHeapFrom true ks (boxesOf la ++ vecsOf la) s.heap 0)[l]? = _
    rw [base_get, hl]
    simp only [Option.map_some, Nat.zero_add, baseObj]
    rw [if_neg (by simpa using hk), if_neg (by simpa using hb)]
    rfl

theorem head_facts {s : AS} {D ks : List Nat} {la : LA} {ls : List (Option Nat)} {h : Heap} (ok : okL s.heap h D ks la ls = true) (x : KT (LA.kinds la)) :
    s.heap.length ≤ (enc true s D ks la x).heap.length ∧ (enc true s D ks la x).tmps.length = s.tmps.length ∧ (∀ i, i ∉ D → (enc true s D ks la x).tmps[i]? = s.tmps[i]?) ∧
    ∀ (l : Nat) (o : Bool × AObj), s.heap[l]? = some o → l ∉ ks → l ∉ boxesOf la ++ vecsOf la → (enc true s D ks la x).heap[l]? = some ((o.1 && o.2.isMark), o.2) :=
  head_facts' (okL_ok ok).sl x

theorem Env.Sound.plain (hΓ : Γ.Sound P) : Γ.plain.Sound P := ⟨hΓ.cs, hΓ.hd, fun f d h => by simp [Env.plain] at h⟩

/-- Which round the code runs in. -/
def RdOK (F : Fence) (β : List Bl) : Option Nat → Prop
  | none => F.round = none
  | some L => ∃ rr rc, β[L]? = some rr ∧ rr.rc = some rc ∧ F.round = some rr.blk

theorem RdOK.mono {β β' : List Bl} {rd : Option Nat} (h : RdOK F β rd) (hb : ∃ δ, β' = β ++ δ) : RdOK F β' rd := by
  obtain ⟨δ, rfl⟩ := hb
  cases rd with
  | none => exact h
  | some L => obtain ⟨rr, rc, h1, h2, h3⟩ := h; exact ⟨rr, rc, get_app h1, h2, h3⟩

/-- A loop over a function is entered. -/
theorem rangeIn_sound {s s1 : AS} {β : List Bl} {a : Act} {w : World} {rd : Option Nat} (hrd : RdOK F β rd) (h : Rel C s β a w) (e : rangeIn s rd = some s1) (fn : FuncId) (ps : Array Tmp) (assign body : Code) :
    ∃ (l : Nat) (mark : List Deferred) (w1 : World) (rr : Bl) (δ : List Bl) (dl : Nat), (Instr.enterLoop fn a.tmps ps assign body F.round).run P w = .ok (l, mark) w1 ∧ Rel C s1 (β ++ δ) { a with defers := mark ++ a.defers } w1 ∧
      (β ++ δ)[s1.heap.length - 1]? = some rr ∧ rr.blk = l ∧ rr.rc = some { state := .ready, pending := none, fn, tmps := a.tmps, params := ps, assign, body, defers := dl } ∧ s1.heap[s1.heap.length - 1]? = some (true, .lp .ready) ∧ s1.tmps = s.tmps ∧
      Ext (fun _ => False) s s1 β (β ++ δ) := by
  have pushLp : ∀ (s0 : AS) (β0 : List Bl) (a0 : Act) (w0 : World) (dl : Nat), Rel C s0 β0 a0 w0 →
      Rel C { s0 with heap := s0.heap ++ [(true, .lp .ready)] } (β0 ++ [⟨w0.heap.size, 0, 0, 0, 0, true, some { state := .ready, pending := none, fn, tmps := a.tmps, params := ps, assign, body, defers := dl }⟩]) a0
        (w0.alloc (.loop { state := .ready, pending := none, fn, tmps := a.tmps, params := ps, assign, body, defers := dl })) := fun s0 β0 a0 w0 dl h0 =>
    (h0.push (Grew.alloc w0 _) (.lp .ready) ⟨w0.heap.size, 0, 0, 0, 0, true, some { state := .ready, pending := none, fn, tmps := a.tmps, params := ps, assign, body, defers := dl }⟩
      (fun b hb => by simp only [AObj.occ, List.mem_singleton] at hb; subst hb; simp)
      (fun _ _ _ => ⟨_, rfl, World.alloc_heap_new _ _⟩)).1
  cases rd with
  | none =>
    simp only [rangeIn, Option.some.injEq] at e
    subst e
    have hr : F.round = none := hrd
    have h1 := (h.push (Grew.alloc w (.deferred (some []))) .mark ⟨w.heap.size, 0, 0, 0, 0, true, none⟩ (fun b hb => by simp only [AObj.occ, List.mem_singleton] at hb; subst hb; simp) (fun _ _ _ => World.alloc_heap_new _ _)).1
    have h2 : Rel C { s with heap := s.heap ++ [(true, .mark)], marks := s.heap.length :: s.marks } (β ++ [⟨w.heap.size, 0, 0, 0, 0, true, none⟩]) { a with defers := { target := .collected w.heap.size, args := #[] } :: a.defers } (w.alloc (.deferred (some []))) := by
      refine { defers := ?_, tsize := h1.tsize, tm := h1.tm, bsize := h1.bsize, ob := h1.ob, occ := h1.occ, apart := h1.apart, keep := h1.keep, frs := h1.frs }
      obtain ⟨bs, e1, e2⟩ := h1.defers
      exact ⟨w.heap.size :: bs, by simp only [List.map_cons]; rw [← e1], ⟨⟨w.heap.size, 0, 0, 0, 0, true, none⟩, by rw [← h.bsize]; simp, rfl, by simp⟩, e2⟩
    have h3 := pushLp _ _ _ _ w.heap.size h2
    refine ⟨w.heap.size + 1, [{ target := .collected w.heap.size, args := #[] }], (w.alloc (.deferred (some []))).alloc (.loop { state := .ready, pending := none, fn, tmps := a.tmps, params := ps, assign, body, defers := w.heap.size }), ⟨w.heap.size + 1, 0, 0, 0, 0, true, some { state := .ready, pending := none, fn, tmps := a.tmps, params := ps, assign, body, defers := w.heap.size }⟩,
      [⟨w.heap.size, 0, 0, 0, 0, true, none⟩, ⟨w.heap.size + 1, 0, 0, 0, 0, true, some { state := .ready, pending := none, fn, tmps := a.tmps, params := ps, assign, body, defers := w.heap.size }⟩], w.heap.size, ?_, ?_, ?_, rfl, rfl, ?_, rfl, ?_⟩
    · rw [hr]; exact run_enterLoop_outer _ _ _ _ _
    · simpa using h3
    · simp only [List.length_append, List.length_singleton, List.length_cons, List.length_nil, Nat.add_sub_cancel]
      rw [← h.bsize, List.getElem?_append_right (by omega)]
      simp
    · simp
    · refine ⟨⟨_, rfl⟩, fun _ _ => rfl, rfl, by simp, fun l o hl ho => ?_, ⟨[s.heap.length], rfl⟩, fun l hl => get_app (get_app hl)⟩
      have ho : (s.heap ++ [(true, AObj.mark)] ++ [(true, AObj.lp .ready)])[l]? = some (false, o) := ho
      rwa [List.append_assoc, List.getElem?_append_left hl] at ho
  | some L =>
    simp only [rangeIn] at e
    split at e
    rotate_left
    · simp at e
    rename_i st hL
    simp only [Option.some.injEq] at e
    subst e
    obtain ⟨r0, rc0, g1, g2, g3⟩ := hrd
    obtain ⟨f0, r1, k1, k2, rc1, k3, k4⟩ := h.obj hL (by simp)
    rw [g1] at k2; cases k2
    have h3 := pushLp _ _ _ _ rc1.defers h
    refine ⟨w.heap.size, [], w.alloc (.loop { state := .ready, pending := none, fn, tmps := a.tmps, params := ps, assign, body, defers := rc1.defers }), ⟨w.heap.size, 0, 0, 0, 0, true, some { state := .ready, pending := none, fn, tmps := a.tmps, params := ps, assign, body, defers := rc1.defers }⟩,
      [⟨w.heap.size, 0, 0, 0, 0, true, some { state := .ready, pending := none, fn, tmps := a.tmps, params := ps, assign, body, defers := rc1.defers }⟩], rc1.defers, ?_, ?_, ?_, rfl, rfl, ?_, rfl, ?_⟩
    · rw [g3]; exact run_enterLoop_inner k4 _ _ _ _ _
    · simpa using h3
    · simp only [List.length_append, List.length_singleton, Nat.add_sub_cancel]
      rw [← h.bsize]; simp
    · simp
    · refine ⟨⟨_, rfl⟩, fun _ _ => rfl, rfl, by simp, fun l o hl ho => ?_, ⟨[], rfl⟩, fun l hl => get_app hl⟩
      have ho : (s.heap ++ [(true, AObj.lp .ready)])[l]? = some (false, o) := ho
      rwa [List.getElem?_append_left hl] at ho

/-- What has become of memory behind a round. -/
theorem round_grown {d d' : Nat → Prop} {s0 s2 s2' s3 : AS} {β0 β2 β3 : List Bl} {L : Nat} {f g : Bool} {st0 st1 st2 : LS} (E1 : Ext d s0 s2 β0 β2) (E2 : Ext d' s2' s3 β2 β3) (h2 : s2'.heap = s2.heap.set L (true, .lp st1)) (hL : s0.heap[L]? = some (f, .lp st0))
    (hg : g = true ∨ (g = f ∧ st2 = st0)) : Grown s0.heap (s3.heap.set L (g, .lp st2)) β0 β3 := by
  obtain ⟨δ1, rfl⟩ := E1.bx
  obtain ⟨δ2, rfl⟩ := E2.bx
  have l2 := E2.hl
  rw [h2, List.length_set] at l2
  have hLl := (List.getElem?_eq_some_iff.1 hL).1
  have hl1 := E1.hl
  refine ⟨⟨δ1 ++ δ2, by simp⟩, by simp; omega, fun l o hl ho => ?_, fun l hl => ?_⟩
  · by_cases e : L = l
    · subst e
      rw [List.getElem?_set_self (by omega)] at ho
      simp only [Option.some.injEq, Prod.mk.injEq] at ho
      rcases hg with hg | ⟨hg, hst⟩
      · rw [hg] at ho; simp at ho
      · rw [hL, ← hg, ← hst, ho.1, ho.2]
    · rw [List.getElem?_set_ne e] at ho
      have := E2.hp l o (by rw [h2, List.length_set]; omega) ho
      rw [h2, List.getElem?_set_ne e] at this
      exact E1.hp l o hl this
  · have e : L ≠ l := fun e => by subst e; rw [hL] at hl; simp at hl
    have := E1.hm l hl
    have := E2.hm l (by rw [h2, List.getElem?_set_ne e]; exact this)
    rw [List.getElem?_set_ne e]; exact this

/-- A round's end. -/
theorem roundEnd_sound {C' : Cx} {s' s2 s2' s3 : AS} {β' β2 β3 : List Bl} {a' a3 : Act} {w3 : World} {R : Type} {k : Heap → TV → Option R} {r : R} {L : Nat} {f g : Bool} {st : LS} {rr : Bl} {rc : Loop} {d d' : Nat → Prop} {s0 : AS}
    (hs0 : s0.heap = s'.heap) (E1 : Ext d s0 s2 β' β2) (E2 : Ext d' s2' s3 β2 β3) (h2 : s2'.heap = s2.heap.set L (true, .lp .busy)) (hL : s'.heap[L]? = some (f, .lp .ready)) (hg : g = true ∨ (g = f ∧ st = .ready))
    (hst : st ≠ .busy) (hr : β'[L]? = some rr) (hrc : rr.rc = some rc) (h3 : Rel (C'.push s' a') s3 β3 a3 w3) (e : roundEnd L g st k s3 = some r) :
    ∃ v w', (Instr.endRound rr.blk st.pe).run P w3 = .ok v w' ∧ CallPost C' s' β' a' k r (.returned v) w' := by
  unfold roundEnd at e
  split at e
  rotate_left
  · simp at e
  rename_i hb
  obtain ⟨f3, hf3⟩ := hat_eq hb (by simp)
  have hr3 : β3[L]? = some rr := by
    obtain ⟨δ1, rfl⟩ := E1.bx
    obtain ⟨δ2, rfl⟩ := E2.bx
    exact get_app (get_app hr)
  obtain ⟨rc', q1, q2⟩ := h3.lp_at hf3 hr3
  rw [hrc] at q1; cases q1
  have hrun := run_endRound (P := P) st.pe q2
  have h4 := h3.lp_turn hf3 hr3 hrc st g
  have hw : (Loop.mk (if st.pe.isNone = true then LoopState.ready else LoopState.done) st.pe rc.fn rc.tmps rc.params rc.assign rc.body rc.defers) = { rc with state := st.st, pending := st.pe } := by
    cases st with
    | ready => rfl
    | busy => exact absurd rfl hst
    | ret => rfl
    | exit i => rfl
  have hv : Value.bool st.pe.isNone = .bool (st == .ready) := by
    cases st with
    | ready => rfl
    | busy => exact absurd rfl hst
    | ret => rfl
    | exit i => rfl
  refine ⟨_, _, hrun, _, _, _, β3, rfl, e, ?_, ?_, ?_⟩
  · have := h4.back
    rw [show ({ ({ rc with state := LS.busy.st, pending := LS.busy.pe } : Loop) with state := if st.pe.isNone = true then LoopState.ready else LoopState.done, pending := st.pe } : Loop) = { rc with state := st.st, pending := st.pe } from hw]
    exact this
  · rw [hv]; simp [TV.R, AV.R, K.rd]
  · rw [← hs0]; rw [← hs0] at hL; exact round_grown E1 E2 h2 hL hg

/-! ### loops over maps: telling -/
theorem encI_set {hd : Bool} {it : Item} {x : it.kind.den} {t : List TV} {h : Heap} {i : Nat} {o : Bool × AObj} (hi : i < h.length) (hn : i ∉ boxesOf [it] ++ vecsOf [it]) :
    encI hd it x (t, h.set i o) = ((encI hd it x (t, h)).1, (encI hd it x (t, h)).2.set i o) := by
  cases it with
  | slot j sk =>
    simp only [encI, List.length_set]
    rw [List.set_append_left _ _ hi]
  | cell l j sk =>
    have hne : i ≠ l := fun e => hn (by simp [boxesOf, e])
    have hh : hat (h.set i o) l = hat h l := by unfold hat; rw [List.getElem?_set_ne hne]
    simp only [encI, hh]
    split
    · simp only [List.length_set]
      rw [List.set_append_left _ _ (by simpa using hi), List.set_comm _ _ hne]
    · rfl
  | vec l T k fr =>
    have hne : i ≠ l := fun e => hn (by simp [vecsOf, e])
    simp only [encI]; rw [List.set_comm _ _ hne]
  | map l k v fr =>
    have hne : i ≠ l := fun e => hn (by simp [vecsOf, e])
    simp only [encI]; rw [List.set_comm _ _ hne]
  | lp l st =>
    have hne : i ≠ l := fun e => hn (by simp [vecsOf, e])
    simp only [encI]; rw [List.set_comm _ _ hne]

theorem encL_set {hd : Bool} {i : Nat} {o : Bool × AObj} : ∀ (la : List Item) (x : KU (LA.kinds la)) (t : List TV) (h : Heap), i < h.length → i ∉ boxesOf la ++ vecsOf la →
    encL hd la x (t, h.set i o) = ((encL hd la x (t, h)).1, (encL hd la x (t, h)).2.set i o)
  | [], _, _, _, _, _ => rfl
  | it :: r, x, t, h, hi, hn => by
    obtain ⟨n1, n2⟩ := boxes_sub hn
    show encL hd r x.2 (encI hd it x.1 (t, h.set i o)) = _
    rw [encI_set hi n1]
    have := encL_set r x.2 (encI hd it x.1 (t, h)).1 (encI hd it x.1 (t, h)).2 (o := o) (hd := hd) (Nat.lt_of_lt_of_le hi (encI_le (th := (t, h)))) n2
    exact this

theorem base_set {hd : Bool} {ks bs : List Nat} {o : Bool × AObj} : ∀ (h : Heap) (n i : Nat), baseHeapFrom hd ks bs (h.set i o) n = (baseHeapFrom hd ks bs h n).set i (baseObj hd ks bs o (n + i))
  | [], _, _ => rfl
  | p :: h, n, 0 => rfl
  | p :: h, n, i + 1 => by
    simp only [List.set_cons_succ, baseHeapFrom]
    rw [base_set h (n + 1) i, show n + 1 + i = n + (i + 1) by omega]

theorem enc_upd {s : AS} {D ks : List Nat} {la : LA} {i : Nat} {o : AObj} (hd : Bool) (hi : i < s.heap.length) (hk : i ∉ ks) (hn : i ∉ boxesOf la ++ vecsOf la) (hm : o.isMark = false) (x : KT (LA.kinds la)) :
    enc hd (s.upd i o) D ks la x = { enc hd s D ks la x with heap := (enc hd s D ks la x).heap.set i (!hd, o) } := by
  have hb : baseObj hd ks (boxesOf la ++ vecsOf la) (true, o) (0 + i) = (!hd, o) := by
    unfold baseObj
    rw [if_neg (by simpa using hk), if_neg (by simpa using hn)]
    cases hd <;> simp [hm]
  have := encL_set (hd := hd) (i := i) (o := (!hd, o)) la (KT.up x) (junkAll D s.tmps) (baseHeapFrom hd ks (boxesOf la ++ vecsOf la) s.heap 0) (by rw [base_len]; exact hi) hn
  simp only [enc, AS.upd]
  rw [base_set, hb, this]

theorem enc_at {s : AS} {D ks : List Nat} {la : LA} {i : Nat} {p : Bool × AObj} (hd : Bool) (hp : s.heap[i]? = some p) (hk : i ∉ ks) (hn : i ∉ boxesOf la ++ vecsOf la) (hm : p.2.isMark = false) (x : KT (LA.kinds la)) :
    (enc hd s D ks la x).heap[i]? = some (if hd then false else p.1, p.2) := by
  have hi := (List.getElem?_eq_some_iff.1 hp).1
  show (encL hd la _ _).2[i]? = _
  rw [encL_keep la _ _ (by show i < (baseHeapFrom hd ks (boxesOf la ++ vecsOf la) s.heap 0).length; rw [base_len]; exact hi) hn]
  show (baseHeapFrom hd ks (boxesOf la ++ vecsOf la) s.heap 0)[i]? = _
  rw [base_get, hp]
  simp only [Option.map_some, Nat.zero_add, baseObj]
  rw [if_neg (by simpa using hk), if_neg (by simpa using hn)]
  cases hd <;> simp [hm]

theorem AS.Fine.upd {C : Cx} {s : AS} (hf : s.Fine C) {i : Nat} {o : AObj} (ho : o.lt s.heap.length) (hm : s.heap[i]? ≠ some (true, .mark)) : (s.upd i o).Fine C where
  tm j t e := by have := hf.tm j t e; simpa [AS.upd] using this
  ob j p e := by
    have e : (s.heap.set i (true, o))[j]? = some p := e
    have hl : (s.upd i o).heap.length = s.heap.length := by simp [AS.upd]
    rw [hl]
    by_cases hij : i = j
    · subst hij
      have hlt := (List.getElem?_eq_some_iff.1 e).1
      rw [List.getElem?_set_self (by simpa using hlt)] at e
      simp only [Option.some.injEq] at e; subst e
      exact ho
    · rw [List.getElem?_set_ne hij] at e
      exact hf.ob j p e
  mks j hj := by
    have := hf.mks j hj
    show (s.heap.set i (true, o))[j]? = _
    rw [List.getElem?_set_ne (fun e => by subst e; exact hm this)]
    exact this
  frm f hf' j t e := by have := hf.frm f hf' j t e; simpa [AS.upd] using this

/-- What a walk over a map is at: where it may be told. -/
structure WalkP (s : AS) (D : List Nat) (L : LoopAnn) (it l m : Nat) : Prop where
  ne : l ≠ m
  it : it ∉ D
  lk : l ∉ L.ks
  mks : m ∉ L.ks
  dead : ∃ f, s.heap[m]? = some (f, .dead)
  lh : l ∉ boxesOf L.head ++ vecsOf L.head
  mh : m ∉ boxesOf L.head ++ vecsOf L.head
  le : ∀ p ∈ L.exits, l ∉ boxesOf p.2 ++ vecsOf p.2 ∧ m ∉ boxesOf p.2 ++ vecsOf p.2

theorem walkOK_ok {s : AS} {D : List Nat} {L : LoopAnn} {it l m : Nat} (h : walkOK s D L it l m = true) : WalkP s D L it l m := by
  simp only [walkOK, Bool.and_eq_true, laFree, Bool.not_eq_true', List.contains_eq_mem, decide_eq_false_iff_not, bne_iff_ne, ne_eq, List.all_eq_true] at h
  obtain ⟨⟨⟨⟨⟨⟨⟨h1, h2⟩, h3⟩, h4⟩, h5⟩, h6⟩, h7⟩, h8⟩ := h
  refine ⟨h1, h2, h3, h4, ?_, h6, h7, h8⟩
  split at h5
  · rename_i f hm; exact ⟨f, hm⟩
  · simp at h5

theorem ES.elim_mk' {R : Type} {f : (key : Option Nat) → (la : LA) → KT (LA.kinds la) → R} {dec : (la : LA) → Option (KT (LA.kinds la))} {key : Option Nat} : ∀ {es : Exits} {e : ES es}, ES.mk es key dec = some e →
    ∃ la x, (∃ p ∈ es, p.2 = la) ∧ dec la = some x ∧ ES.elim es e f = f key la x
  | [], e, h => by simp [ES.mk] at h
  | [p], e, h => by
    unfold ES.mk at h
    split at h
    · rename_i hk; subst hk; exact ⟨p.2, e, ⟨p, by simp, rfl⟩, h, rfl⟩
    · simp at h
  | p :: q :: r, e, h => by
    unfold ES.mk at h
    split at h
    · rename_i hk; subst hk
      obtain ⟨x, hx, rfl⟩ := Option.map_eq_some_iff.1 h
      exact ⟨p.2, x, ⟨p, by simp, rfl⟩, hx, rfl⟩
    · obtain ⟨x, hx, rfl⟩ := Option.map_eq_some_iff.1 h
      obtain ⟨la, y, ⟨p', hp', hla⟩, h1, h2⟩ := ES.elim_mk' (f := f) hx
      exact ⟨la, y, ⟨p', List.mem_cons_of_mem _ hp', hla⟩, h1, h2⟩

/-- What is claimed of a piece of code. -/
def SoundC (P : Program) (Γ : Env) (an : Ann) (c : Code) : Prop := ∀ (R : Type) (rd : Option Nat) (b : Nat) (s : AS) (K : Kt R) (r : R), arun P Γ an c R rd b s K = some r →
    ∀ (F : Fence) (n : Nat) (C : Cx) (β : List Bl) (a : Act) (w : World), FW F → RdOK F β rd → YOK P C β Γ.yl → Rel C s β a w →
    c.wpIn F n P (Post C s β (· ∈ Code.dsts c) K r) a w

theorem walk_sound (hΓ : Γ.Sound P) {an : Ann} {id : Nat} {ops : Array Oper} {rest : Code} (ih : SoundC P Γ an rest) {L : LoopAnn} {s : AS} {o1 : Oper} {ol : List Oper} (hops : ops.toList = o1 :: ol) {it : Nat} (hop : o1.op = .next (.tmp it) false) (hg : o1.guard = none)
    {d : Nat} (hdst : o1.dst = some d) {l m : Nat} {k v : Bool × K} {es left : List (k.2.den × v.2.den)} {fr : Bool} (hit : s.tmps[it]? = some (.one (.wk l))) (hob : hat s.heap l = .walk m k v es left none fr)
    (hok : walkOK s (Code.dsts (.seq (.region id ops false) rest)) L it l m = true) {R : Type} {rd : Option Nat} {b : Nat} {K : Kt R} {r : R}
    (e : walkLoop P Γ (Code.dsts (.seq (.region id ops false) rest)) L s ops ol d l m k v es left fr (fun s1 K1 => arun P Γ an rest (KT (LA.kinds L.head) ⊕ ES L.exits) rd b s1 K1) K = some r)
    {β : List Bl} {a : Act} {w : World} (hF : FW F) (hrd : RdOK F β rd) (hY : YOK P C β Γ.yl) (h : Rel C s β a w) :
    (Code.loop (.seq (.region id ops false) rest)).wpIn F n P (Post C s β (· ∈ Code.dsts (.seq (.region id ops false) rest)) K r) a w := by
  have W := walkOK_ok hok
  generalize hD : Code.dsts (.seq (.region id ops false) rest) = D at *
  have hdD : d ∈ D := by rw [← hD]; exact List.mem_append_left _ (List.mem_filterMap.2 ⟨o1, by rw [hops]; simp, hdst⟩)
  have hopsD : ∀ i, rdst ops i → i ∈ D := fun i ⟨o, ho, hi⟩ => by rw [← hD]; exact List.mem_append_left _ (List.mem_filterMap.2 ⟨o, by simpa using ho, hi⟩)
  have hrestD : ∀ i, i ∈ Code.dsts rest → i ∈ D := fun i hi => by rw [← hD]; exact List.mem_append_right _ hi
  obtain ⟨fm, hdead⟩ := W.dead
  obtain ⟨fl, hfl⟩ := hat_eq hob (by simp)
  have hll := (List.getElem?_eq_some_iff.1 hfl).1
  have hml := (List.getElem?_eq_some_iff.1 hdead).1
  unfold walkLoop at e
  split at e
  · simp at e
  rename_i x0 hx0
  split at e
  · simp at e
  rename_i ex hex
  have hgood := anyM_some hex
  clear hex
  generalize hf : (fun (p : k.2.den × v.2.den) (lf : List (k.2.den × v.2.den)) (x : KT (LA.kinds L.head)) => aops P Γ ops ol ((enc true (s.upd l (.walk m k v es lf (some p) fr)) D L.ks L.head x).put (some d) (.tup [(false, [.dat .bool true true]), (k.1, k.2.cells fr p.1), (v.1, v.2.cells fr p.2)])) fun s1 => arun P Γ an rest (KT (LA.kinds L.head) ⊕ ES L.exits) rd b s1 {
        norm := fun s' => (decAt (s.upd l (.walk m k v es lf (some p) fr)) D L.ks (boxesOf L.head ++ vecsOf L.head) L.head s').map .inl
        exit := fun i s' => (ES.mk L.exits (some i) (fun la => decAt (s.upd l (.walk m k v es lf (some p) fr)) D L.ks (boxesOf L.head ++ vecsOf L.head) la s')).map .inr
        ret := fun s' => (ES.mk L.exits none (fun la => decAt (s.upd l (.walk m k v es lf (some p) fr)) D L.ks (boxesOf L.head ++ vecsOf L.head) la s')).map .inr }) = f at hgood
  generalize hfin : (fun (x : KT (LA.kinds L.head)) => aops P Γ ops ol ((enc true (unwalk s l m k v es fr) D L.ks L.head x).put (some d) (.tup [(false, [.dat .bool false true])])) fun s1 => arun P Γ an rest (KT (LA.kinds L.head) ⊕ ES L.exits) rd b s1 {
        norm := fun _ => none
        exit := fun i s' => (ES.mk L.exits (some i) (fun la => decAt (unwalk s l m k v es fr) D L.ks (boxesOf L.head ++ vecsOf L.head) la s')).map .inr
        ret := fun s' => (ES.mk L.exits none (fun la => decAt (unwalk s l m k v es fr) D L.ks (boxesOf L.head ++ vecsOf L.head) la s')).map .inr }) = fin at hgood
  unfold decIn at hx0
  split at hx0
  rotate_left
  · simp at hx0
  rename_i xu ls hdec
  split at hx0
  rotate_left
  · simp at hx0
  rename_i hokL
  simp only [Option.some.injEq] at hx0
  subst hx0
  have hsl := (okL_ok hokL).sl
  have hfine := h.fine
  obtain ⟨β1, hr1, hb1⟩ := h.reenc h.fine hdec hokL rfl rfl (fun _ _ => rfl) (Nat.le_refl _) (fun l o hl _ _ => ⟨o.1, hl⟩) true
  obtain ⟨δ1, hb1⟩ := hb1 β [] (by simp) h.bsize
  -- the state told over another base
  have encW : ∀ (hd : Bool) (la : LA) (x : KT (LA.kinds la)) (o : AObj), o.isMark = false → l ∉ boxesOf la ++ vecsOf la → enc hd (s.upd l o) D L.ks la x = { enc hd s D L.ks la x with heap := (enc hd s D L.ks la x).heap.set l (!hd, o) } :=
    fun hd la x o ho hn => enc_upd hd hll W.lk hn ho x
  have encF : ∀ (hd : Bool) (la : LA) (x : KT (LA.kinds la)), l ∉ boxesOf la ++ vecsOf la → m ∉ boxesOf la ++ vecsOf la →
      enc hd (unwalk s l m k v es fr) D L.ks la x = { enc hd s D L.ks la x with heap := ((enc hd s D L.ks la x).heap.set l (!hd, .dead)).set m (!hd, .map k v es fr) } := fun hd la x hn hn' => by
    unfold unwalk
    rw [enc_upd hd (by simpa [AS.upd] using hml) W.mks hn' rfl x, enc_upd hd hll W.lk hn rfl x]
  have encM : ∀ (hd : Bool) (la : LA) (x : KT (LA.kinds la)), m ∉ boxesOf la ++ vecsOf la → (enc hd s D L.ks la x).heap[m]? = some (if hd then false else fm, .dead) := fun hd la x hn' => enc_at hd hdead W.mks hn' rfl x
  have encl : ∀ (hd : Bool) (la : LA) (x : KT (LA.kinds la)), l < (enc hd s D L.ks la x).heap.length := fun hd la x => by
    refine Nat.lt_of_lt_of_le hll ?_
    refine Nat.le_trans ?_ (encL_le _ _ _)
    show _ ≤ (baseHeapFrom hd L.ks (boxesOf la ++ vecsOf la) s.heap 0).length
    rw [base_len]; exact Nat.le_refl _
  -- the base is over
  have toF : ∀ (hd : Bool) (la : LA) (x : KT (LA.kinds la)) (lf : List (k.2.den × v.2.den)) (cur : Option (k.2.den × v.2.den)) (β2 : List Bl) (a2 : Act) (w2 : World), l ∉ boxesOf la ++ vecsOf la → m ∉ boxesOf la ++ vecsOf la →
      Rel C (enc hd (s.upd l (.walk m k v es lf cur fr)) D L.ks la x) β2 a2 w2 → Rel C (enc hd (unwalk s l m k v es fr) D L.ks la x) β2 a2 w2 := fun hd la x lf cur β2 a2 w2 hn hn' h2 => by
    rw [encW hd la x _ rfl hn] at h2
    rw [encF hd la x hn hn']
    have h3 := h2.walk_end (l := l) (m := m) (k := k) (v := v) (es := es) (left := lf) (cur := cur) (fr := fr) (f := !hd) (fm := if hd then false else fm) (by simp [encl hd la x]) (by
      show ((enc hd s D L.ks la x).heap.set l _)[m]? = _
      rw [List.getElem?_set_ne W.ne]; exact encM hd la x hn') (!hd) (!hd)
    simpa using h3
  -- a piece of the round
  have piece : ∀ (sX : AS) (x : KT (LA.kinds L.head)) (tv : TV) (KK : Kt (KT (LA.kinds L.head) ⊕ ES L.exits)) (res : KT (LA.kinds L.head) ⊕ ES L.exits) (βh : List Bl) (a1 : Act) (w1 : World) (Q : Exit → Act → World → Prop),
      aops P Γ ops ol ((enc true sX D L.ks L.head x).put (some d) tv) (fun s1 => arun P Γ an rest (KT (LA.kinds L.head) ⊕ ES L.exits) rd b s1 KK) = some res → (∃ δ, βh = β ++ δ) → Rel C ((enc true sX D L.ks L.head x).put (some d) tv) βh a1 w1 →
      (∀ ex' s' β' a' w', KK.at ex' s' = some res → Rel C s' β' a' w' → Ext (· ∈ D) (enc true sX D L.ks L.head x) s' βh β' → Q ex' a' w') →
      wpOpsIn F n P ops (Exit.then (rest.wpIn F n P Q) Q) (List.range' 1 ol.length) a1 w1 := by
    intro sX x tv KK res βh a1 w1 Q he hbh hrel hQ
    refine aops_sound hF hΓ ol 1 (by rw [hops]; rfl) (hY.mono (CxLe.refl _) hbh) hrel he ?_
    rintro a' w' ⟨s1, β1, g1, g2, g3⟩
    have hb1 : ∃ δ, β1 = β ++ δ := by obtain ⟨δ, rfl⟩ := hbh; obtain ⟨δ', rfl⟩ := g3.bx; exact ⟨δ ++ δ', by simp⟩
    show rest.wpIn F n P Q a' w'
    refine wpIn_mono (ih _ rd b s1 KK res g1 F n C β1 a' w' hF (hrd.mono hb1) (hY.mono (CxLe.refl _) hb1) g2) fun ex' a'' w'' ⟨s', β', k1, k2, k3⟩ => ?_
    exact hQ ex' s' β' a'' w'' k1 k2 (((Ext.put _ _ (some d) tv).mono fun i hi => by cases hi; exact hdD).trans ((g3.mono hopsD).trans (k3.mono hrestD)))
  -- the ways out
  have hnw : ∀ (lf : List (k.2.den × v.2.den)) (cur : Option (k.2.den × v.2.den)), (s.upd l (.walk m k v es lf cur fr)).Fine C := fun lf cur => hfine.upd hml (by rw [hfl]; simp)
  have hnF : (unwalk s l m k v es fr).Fine C := (hfine.upd (i := l) (o := .dead) trivial (by rw [hfl]; simp)).upd (o := .map k v es fr) trivial (by
    show (s.heap.set l _)[m]? ≠ _
    rw [List.getElem?_set_ne W.ne, hdead]; simp)
  have lenW : ∀ (lf : List (k.2.den × v.2.den)) (cur : Option (k.2.den × v.2.den)), (s.upd l (.walk m k v es lf cur fr)).heap.length = s.heap.length := fun _ _ => by simp [AS.upd]
  have lenF : (unwalk s l m k v es fr).heap.length = s.heap.length := by simp [unwalk, AS.upd]
  have extF : Ext (fun _ => False) s (unwalk s l m k v es fr) β β := by
    have e1 := Ext.upd (fun _ => False) s β l .dead (by rw [hfl]; simp)
    have e2 := Ext.upd (fun _ => False) (s.upd l .dead) β m (.map k v es fr) (by
      show (s.heap.set l _)[m]? ≠ _
      rw [List.getElem?_set_ne W.ne, hdead]; simp)
    exact e1.trans e2
  have leave : ∀ (key : Option Nat) (la : LA) (y : KT (LA.kinds la)) (β2 : List Bl) (a2 : Act) (w2 : World) (hla : ∃ p ∈ L.exits, p.2 = la) (sX : AS) (ls' : List (Option Nat)) (h' : Heap), (sX = unwalk s l m k v es fr ∨ ∃ lf cur, sX = s.upd l (.walk m k v es lf cur fr)) →
      Rel C (enc false sX D L.ks la y) β2 a2 w2 → okL sX.heap h' D L.ks la ls' = true → (∃ δ, β2 = β ++ δ) → (match key with | some i => K.exit i (enc false (unwalk s l m k v es fr) D L.ks la y) | none => K.ret (enc false (unwalk s l m k v es fr) D L.ks la y)) = some r →
      ∃ s2 β2, (match key with | some i => K.exit i s2 | none => K.ret s2) = some r ∧ Rel C s2 β2 a2 w2 ∧ Ext (· ∈ D) s s2 β β2 := by
    intro key la y β2 a2 w2 hla sX ls' h' hsX hrel hok' hb2 hK
    obtain ⟨p, hp, rfl⟩ := hla
    obtain ⟨n1, n2⟩ := W.le p hp
    have hE := enc_ext (s0 := sX) hok' y hb2
    refine ⟨_, β2, hK, ?_, ?_⟩
    · rcases hsX with rfl | ⟨lf, cur, rfl⟩
      · exact hrel
      · exact toF false _ y lf cur β2 a2 w2 n1 n2 hrel
    · rcases hsX with rfl | ⟨lf, cur, rfl⟩
      · exact (extF.mono fun i hi => hi.elim).trans hE
      · rw [encF false _ y n1 n2]
        rw [encW false _ y _ rfl n1] at hE
        refine ⟨hE.bx, hE.tm, hE.tl, ?_, fun i o hi ho => ?_, hE.mks, fun i hi => ?_⟩
        · have := hE.hl; simp [AS.upd] at this; simpa using this
        · have ho : ((((enc false s D L.ks p.2 y).heap.set l (true, AObj.dead)).set m (true, AObj.map k v es fr)))[i]? = some (false, o) := ho
          have him : m ≠ i := fun e => by
            subst e
            by_cases hq : m < ((enc false s D L.ks p.2 y).heap.set l (true, AObj.dead)).length
            · rw [List.getElem?_set_self hq] at ho; simp at ho
            · rw [List.getElem?_eq_none (by simpa using hq)] at ho; simp at ho
          rw [List.getElem?_set_ne him] at ho
          have hil : l ≠ i := fun e => by
            subst e
            rw [List.getElem?_set_self (encl false _ y)] at ho; simp at ho
          rw [List.getElem?_set_ne hil] at ho
          have := hE.hp i o (by rw [lenW]; exact hi) (by
            show ((enc false s D L.ks p.2 y).heap.set l _)[i]? = _
            rw [List.getElem?_set_ne hil]; exact ho)
          have this : (s.heap.set l _)[i]? = some (false, o) := this
          rwa [List.getElem?_set_ne hil] at this
        · have hil : l ≠ i := fun e => by subst e; rw [hfl] at hi; simp at hi
          have him : m ≠ i := fun e => by subst e; rw [hdead] at hi; simp at hi
          have := hE.hm i (by
            show (s.heap.set l _)[i]? = _
            rw [List.getElem?_set_ne hil]; exact hi)
          have this : ((enc false s D L.ks p.2 y).heap.set l _)[i]? = some (true, AObj.mark) := this
          rw [List.getElem?_set_ne hil] at this
          show ((((enc false s D L.ks p.2 y).heap.set l (true, AObj.dead)).set m (true, AObj.map k v es fr)))[i]? = _
          rw [List.getElem?_set_ne him, List.getElem?_set_ne hil]; exact this
  refine wpIn_loop_rounds (left.length + 1) ?_
  have hr0 : Rel C (enc true (s.upd l (.walk m k v es left none fr)) D L.ks L.head (KT.down xu)) β1 a w := by
    rw [encW true _ _ _ rfl W.lh]
    have := enc_at (D := D) (ks := L.ks) (la := L.head) true hfl W.lk W.lh rfl (KT.down xu)
    have hs : (enc true s D L.ks L.head (KT.down xu)).heap.set l (!true, .walk m k v es left none fr) = (enc true s D L.ks L.head (KT.down xu)).heap := by
      apply List.ext_getElem?
      intro i
      by_cases hi : l = i
      · subst hi; rw [List.getElem?_set_self (encl true _ _), this]; rfl
      · rw [List.getElem?_set_ne hi]
    rw [hs]; exact hr1
  -- where the walk stands, and its first operation
  have itAt : ∀ (L' : List (k.2.den × v.2.den)) (x : KT (LA.kinds L.head)) (cur : Option (k.2.den × v.2.den)) (βh : List Bl) (a : Act) (w : World), Rel C (enc true (s.upd l (.walk m k v es L' cur fr)) D L.ks L.head x) βh a w →
      ∃ rr, βh[l]? = some rr ∧ a.eval (.tmp it) = .pointer (some ⟨rr.blk, 0, none⟩) ∧ (enc true (s.upd l (.walk m k v es L' cur fr)) D L.ks L.head x).heap[l]? = some (false, .walk m k v es L' cur fr) := by
    intro L' x cur βh a w hx
    obtain ⟨f1, f2, f3, f4⟩ := head_facts' (s := s.upd l (.walk m k v es L' cur fr)) (ks := L.ks) hsl x
    have ht := hx.tm it (.one (.wk l)) (by rw [f3 it W.it]; exact hit)
    obtain ⟨rr, hr, hv⟩ := ht
    refine ⟨rr, hr, hv, ?_⟩
    rw [encW true _ _ _ rfl W.lh, List.getElem?_set_self (encl true _ _)]
    rfl
  have firstOp : ∀ (a : Act) (w : World) (pv u : Value) (w1 : World) (hv : a.eval (.tmp it) = pv) (hrun : (Instr.next pv false o1.type).run P w = .ok u w1) (Q : Exit → Act → World → Prop),
      wpOpsIn F n P ops Q (List.range' 1 ol.length) (a.put (some d) u) w1 → wpOpsIn F n P ops Q (List.range ops.size) a w := by
    intro a w pv u w1 hv hrun Q hnext
    have hsz : ops.size = ol.length + 1 := by rw [← Array.length_toList, hops]; rfl
    have h0 : ops[0]? = some o1 := by rw [← Array.getElem?_toList, hops]; rfl
    rw [hsz, List.range_eq_range', List.range'_succ]
    simp only [wpOpsIn, h0]
    have hw : Region.wanted o1 (yielded ops a.tmps) = true := by simp [Region.wanted, hg]
    rw [if_pos hw]
    refine wpIn_value hF (by simp [hop]) (v := u) (w' := w1) ?_ (by rw [hdst]; exact hnext)
    simp only [execOp, hop, hv, Sem.run_bind, hrun, Result.andThen_ok, Sem.run_pure]
  have rounds : ∀ (nn : Nat) (L' : List (k.2.den × v.2.den)) (x : KT (LA.kinds L.head)) (cur : Option (k.2.den × v.2.den)) (βh : List Bl) (a : Act) (w : World), L'.length = nn → goodM f fin nn L' x ex →
      Rel C (enc true (s.upd l (.walk m k v es L' cur fr)) D L.ks L.head x) βh a w → (∃ δ, βh = β ++ δ) → Code.roundsIn F n P (.seq (.region id ops false) rest) (Post C s β (· ∈ D) K r) (nn + 1) a w := by
    intro nn
    induction nn with
    | zero =>
      intro L' x cur βh a w hlen hg' hx hbh
      obtain ⟨rfl, hfx⟩ := hg'
      rw [← hfin] at hfx
      obtain ⟨rr, hr, hv, hw⟩ := itAt [] x cur βh a w hx
      rw [roundsIn_succ]
      refine wpIn_seq (wpIn_region ?_)
      rcases hx.walk_next hw hr o1.type with ⟨_, hrun⟩ | ⟨j, p, w', kv, vv, hj, _⟩
      rotate_left
      · simp at hj
      refine firstOp a w _ _ w hv hrun _ ?_
      have hF2 := toF true L.head x [] cur βh a w W.lh W.mh hx
      refine piece (unwalk s l m k v es fr) x _ _ _ βh _ w _ hfx hbh (hF2.put (some d) _ _ ⟨[.bool false], rfl, rfl, trivial⟩) ?_
      intro ex' s' β' a' w' g1 g2 g3
      obtain ⟨f1, f2, f3, f4⟩ := head_facts' (s := unwalk s l m k v es fr) (ks := L.ks) hsl x
      have out : ∀ (key : Option Nat) (e' : ES L.exits), ES.mk L.exits key (fun la => decAt (unwalk s l m k v es fr) D L.ks (boxesOf L.head ++ vecsOf L.head) la s') = some e' → e' = ex →
          ∃ s2 β2, (match key with | some i => K.exit i s2 | none => K.ret s2) = some r ∧ Rel C s2 β2 a' w' ∧ Ext (· ∈ D) s s2 β β2 := by
        intro key e' hmk hee
        subst hee
        obtain ⟨la, y, hla, hd, hel⟩ := ES.elim_mk' (f := fun key la x => match key with
          | some i => K.exit i (enc false (unwalk s l m k v es fr) D L.ks la x)
          | none => K.ret (enc false (unwalk s l m k v es fr) D L.ks la x)) hmk
        obtain ⟨⟨β2, q1, q2⟩, ls', h', hok'⟩ := decAt_sound hnF (by rw [lenF]; exact h.bsize) hbh g2 g3 f1 f2 rfl f3 f4 hd false
        rw [hel] at e
        exact leave key la y β2 a' w' hla _ ls' h' (.inl rfl) q1 hok' q2 e
      cases ex' with
      | normal => simp [Kt.at] at g1
      | exit i =>
        simp only [Kt.at, Option.map_eq_some_iff] at g1
        obtain ⟨e2, hmk, hy⟩ := g1
        obtain ⟨s2, β2, k1, k2, k3⟩ := out (some i) e2 hmk (by simpa using hy)
        exact ⟨s2, β2, k1, k2, k3⟩
      | ret =>
        simp only [Kt.at, Option.map_eq_some_iff] at g1
        obtain ⟨e2, hmk, hy⟩ := g1
        obtain ⟨s2, β2, k1, k2, k3⟩ := out none e2 hmk (by simpa using hy)
        exact ⟨s2, β2, k1, k2, k3⟩
      | goto _ => simp [Kt.at] at g1
      | panic _ => simp [Kt.at] at g1
      | outgrown => simp [Kt.at] at g1
    | succ nn ihn =>
      intro L' x cur βh a w hlen hg' hx hbh
      obtain ⟨rr, hr, hv, hw⟩ := itAt L' x cur βh a w hx
      rw [roundsIn_succ]
      refine wpIn_seq (wpIn_region ?_)
      rcases hx.walk_next hw hr o1.type with ⟨h0, _⟩ | ⟨j, p, w', kv, vv, hj, hrun, hrel, htv⟩
      · subst h0; simp at hlen
      refine firstOp a w _ _ w' hv hrun _ ?_
      have hgj := hg' j p hj
      have hjl := (List.getElem?_eq_some_iff.1 hj).1
      have hlen' : (L'.eraseIdx j).length = nn := by rw [List.length_eraseIdx_of_lt hjl]; omega
      generalize hLe : L'.eraseIdx j = Le at *
      have hx' : Rel C (enc true (s.upd l (.walk m k v es Le (some p) fr)) D L.ks L.head x) βh a w' := by
        rw [encW true _ _ _ rfl W.lh] at hrel ⊢
        simp only [List.set_set] at hrel
        exact Rel.set_flag (s := enc true s D L.ks L.head x) (encl true _ _) (by simp) hrel
      have htv' : TV.R w' (C.N (enc true (s.upd l (.walk m k v es Le (some p) fr)) D L.ks L.head x).heap βh w') (C.fresh (enc true (s.upd l (.walk m k v es Le (some p) fr)) D L.ks L.head x).heap βh w') βh
          (.tup [(false, [.dat .bool true true]), (k.1, k.2.cells fr p.1), (v.1, v.2.cells fr p.2)]) (.tuple #[.bool true, kv, vv]) := by
        rw [encW true _ _ _ rfl W.lh] at htv ⊢
        simp only [List.set_set] at htv
        have same : ∀ b, Free ((enc true s D L.ks L.head x).heap.set l (true, .walk m k v es Le (some p) fr)) βh b → Free ((enc true s D L.ks L.head x).heap.set l (!true, .walk m k v es Le (some p) fr)) βh b := by
          intro b hfree i o r0 hi hr0 hb
          by_cases hil : l = i
          · subst hil
            rw [List.getElem?_set_self (encl true _ _)] at hi
            simp only [Option.some.injEq] at hi; subst hi
            exact hfree l (true, _) r0 (by rw [List.getElem?_set_self (encl true _ _)]) hr0 hb
          · rw [List.getElem?_set_ne hil] at hi
            exact hfree i o r0 (by rw [List.getElem?_set_ne hil]; exact hi) hr0 hb
        exact TV.R_mono (AV.R_mono (fun _ _ => rfl) (fun b hb => ⟨hb.1, hb.2.1, same b hb.2.2⟩) (fun b hb => Cx.fresh_N hb) (fun b hb => ⟨hb.1, hb.2.1, same b hb.2.2⟩) (fun _ _ h => h)) _ _ htv
      obtain ⟨f1, f2, f3, f4⟩ := head_facts' (s := s.upd l (.walk m k v es Le (some p) fr)) (ks := L.ks) hsl x
      have fine := hnw Le (some p)
      have out : ∀ (key : Option Nat) (e' : ES L.exits) (s' : AS) (β' : List Bl) (a' : Act) (w' : World), Rel C s' β' a' w' → Ext (· ∈ D) (enc true (s.upd l (.walk m k v es Le (some p) fr)) D L.ks L.head x) s' βh β' →
          ES.mk L.exits key (fun la => decAt (s.upd l (.walk m k v es Le (some p) fr)) D L.ks (boxesOf L.head ++ vecsOf L.head) la s') = some e' → e' = ex →
          ∃ s2 β2, (match key with | some i => K.exit i s2 | none => K.ret s2) = some r ∧ Rel C s2 β2 a' w' ∧ Ext (· ∈ D) s s2 β β2 := by
        intro key e' s' β' a' w' g2 g3 hmk hee
        subst hee
        obtain ⟨la, y, hla, hd, hel⟩ := ES.elim_mk' (f := fun key la x => match key with
          | some i => K.exit i (enc false (unwalk s l m k v es fr) D L.ks la x)
          | none => K.ret (enc false (unwalk s l m k v es fr) D L.ks la x)) hmk
        obtain ⟨⟨β2, q1, q2⟩, ls', h', hok'⟩ := decAt_sound fine (by rw [lenW]; exact h.bsize) hbh g2 g3 f1 f2 rfl f3 f4 hd false
        rw [hel] at e
        exact leave key la y β2 a' w' hla _ ls' h' (.inr ⟨Le, some p, rfl⟩) q1 hok' q2 e
      split at hgj
      · rename_i y hfx
        rw [← hf] at hfx
        refine piece (s.upd l (.walk m k v es Le (some p) fr)) x _ _ _ βh _ w' _ hfx hbh (hx'.put (some d) _ _ htv') ?_
        intro ex' s' β' a' w'' g1 g2 g3
        cases ex' with
        | normal =>
          simp only [Kt.at, Option.map_eq_some_iff] at g1
          obtain ⟨y', hd, hy⟩ := g1
          cases hy
          obtain ⟨⟨β2, q1, q2⟩, _⟩ := decAt_sound fine (by rw [lenW]; exact h.bsize) hbh g2 g3 f1 f2 rfl f3 f4 hd true
          exact ihn Le _ (some p) β2 a' w'' hlen' hgj q1 q2
        | exit i => simp only [Kt.at, Option.map_eq_some_iff] at g1; obtain ⟨_, _, hy⟩ := g1; simp at hy
        | ret => simp only [Kt.at, Option.map_eq_some_iff] at g1; obtain ⟨_, _, hy⟩ := g1; simp at hy
        | goto _ => simp [Kt.at] at g1
        | panic _ => simp [Kt.at] at g1
        | outgrown => simp [Kt.at] at g1
      · rename_i e' hfx
        rw [← hf] at hfx
        refine piece (s.upd l (.walk m k v es Le (some p) fr)) x _ _ _ βh _ w' _ hfx hbh (hx'.put (some d) _ _ htv') ?_
        intro ex' s' β' a' w'' g1 g2 g3
        cases ex' with
        | normal => simp only [Kt.at, Option.map_eq_some_iff] at g1; obtain ⟨_, _, hy⟩ := g1; simp at hy
        | exit i =>
          simp only [Kt.at, Option.map_eq_some_iff] at g1
          obtain ⟨e2, hmk, hy⟩ := g1
          cases hy
          obtain ⟨s2, β2, k1, k2, k3⟩ := out (some i) _ s' β' a' w'' g2 g3 hmk hgj
          exact ⟨s2, β2, k1, k2, k3⟩
        | ret =>
          simp only [Kt.at, Option.map_eq_some_iff] at g1
          obtain ⟨e2, hmk, hy⟩ := g1
          cases hy
          obtain ⟨s2, β2, k1, k2, k3⟩ := out none _ s' β' a' w'' g2 g3 hmk hgj
          exact ⟨s2, β2, k1, k2, k3⟩
        | goto _ => simp [Kt.at] at g1
        | panic _ => simp [Kt.at] at g1
        | outgrown => simp [Kt.at] at g1
      · exact hgj.elim
  exact rounds left.length left _ none β1 a w rfl hgood hr0 ⟨δ1, hb1⟩

theorem arun_sound2 (hΓ : Γ.Sound P) (hm : P.follows .mixedOrders = true) {an : Ann} : ∀ (c : Code), SoundC P Γ an c ∧ ∀ x y, c = .seq x y → SoundC P Γ an y := by
  intro c
  induction c with
  | skip => exact ⟨fun R rd b s K r e F n C β a w hF hrd hY h => wpIn_skip ⟨s, β, e, h, Ext.refl _ _ _⟩, by intro x' y' hxy; simp at hxy⟩
  | region id ops draw =>
    refine ⟨?_, by intro x' y' hxy; simp at hxy⟩
    intro R rd b s K r e F n C β a w hF hrd hY h
    have hd : ∀ i, rdst ops i → i ∈ Code.dsts (.region id ops draw) := fun i ⟨o, ho, hi⟩ => List.mem_filterMap.2 ⟨o, by simpa using ho, hi⟩
    have fin : ∀ a' w', After C s β (rdst ops) K.norm r a' w' → Post C s β (· ∈ Code.dsts (.region id ops draw)) K r .normal a' w' :=
      fun a' w' ⟨s', β', h1, h2, h3⟩ => ⟨s', β', h1, h2, h3.mono hd⟩
    cases draw with
    | true => exact draw_sound hF hΓ.plain hm h e fin
    | false => exact region_sound hF hΓ hY h e fin
  | seq x y ihx ihy =>
    refine ⟨?_, by intro x' y' hxy; simp at hxy; rw [← hxy.2]; exact ihy.1⟩
    intro R rd b s K r e F n C β a w hF hrd hY h
    refine wpIn_seq ?_
    simp only [arun] at e
    split at e
    · refine wpIn_mono (ihx.1 R rd b s _ r e F n C β a w hF hrd hY h) fun ex a' w' ⟨s', β', h1, h2, h3⟩ => ?_
      have h3' : Ext (· ∈ Code.dsts (.seq x y)) s s' β β' := h3.mono fun i hi => List.mem_append_left _ hi
      cases ex with
      | normal =>
        refine wpIn_mono (ihy.1 R rd b s' K r h1 F n C β' a' w' hF (hrd.mono h3.bx) (hY.mono (CxLe.refl _) h3.bx) h2) fun ex2 a2 w2 ⟨s2, β2, g1, g2, g3⟩ => ?_
        exact ⟨s2, β2, g1, g2, h3'.trans (g3.mono fun i hi => List.mem_append_right _ hi)⟩
      | exit i => exact ⟨s', β', h1, h2, h3'⟩
      | ret => exact ⟨s', β', h1, h2, h3'⟩
      | goto _ => simp [Kt.at] at h1
      | panic _ => simp [Kt.at] at h1
      | outgrown => simp [Kt.at] at h1
    · rename_i la ks hcut
      split at e
      · simp at e
      rename_i v hv
      obtain ⟨β1, hr1, hb1⟩ := h.reenc (D := []) (ks := []) (la := []) (xu := ()) (ls := []) h.fine rfl rfl rfl rfl (fun _ _ => rfl) (Nat.le_refl _) (fun l o hl _ _ => ⟨o.1, hl⟩) true
      obtain ⟨δ1, hb1⟩ := hb1 β [] (by simp) h.bsize
      obtain ⟨f1, f2, f3, f4⟩ := head_facts (s := s) (D := []) (ks := []) (la := []) (ls := []) (h := s.heap) rfl ()
      refine wpIn_mono (ihx.1 _ rd b s.calm _ v hv F n C β1 a w hF (hrd.mono ⟨δ1, hb1⟩) (hY.mono (CxLe.refl _) ⟨δ1, hb1⟩) hr1) fun ex a' w' ⟨s', β', g1, g2, g3⟩ => ?_
      cases ex with
      | normal =>
        have g1 : decAt s (Code.dsts x) ks [] la s' = some v := g1
        obtain ⟨⟨β2, q1, q2⟩, ls', h', hok'⟩ := decAt_sound (S := s.calm) h.fine h.bsize ⟨δ1, hb1⟩ g2 g3 f1 f2 rfl (fun i _ => f3 i (by simp)) (fun l o hl _ _ => f4 l o hl (by simp) (by simp [boxesOf, vecsOf])) g1 false
        refine wpIn_mono (ihy.1 R rd b _ K r e F n C β2 a' w' hF (hrd.mono q2) (hY.mono (CxLe.refl _) q2) q1) fun ex2 a2 w2 ⟨s2, β3, k1, k2, k3⟩ => ?_
        exact ⟨s2, β3, k1, k2, ((enc_ext hok' v q2).mono fun i hi => List.mem_append_left _ hi).trans (k3.mono fun i hi => List.mem_append_right _ hi)⟩
      | exit i => simp [Kt.at] at g1
      | ret => simp [Kt.at] at g1
      | goto _ => simp [Kt.at] at g1
      | panic _ => simp [Kt.at] at g1
      | outgrown => simp [Kt.at] at g1
  | cond c x y ihx ihy =>
    refine ⟨?_, by intro x' y' hxy; simp at hxy⟩
    intro R rd b s K r e F n C β a w hF hrd hY h
    simp only [arun] at e
    split at e
    rotate_left
    · simp at e
    rename_i t hc
    have hv : a.eval c = .bool t := by simpa [TV.R, AV.R, Go.Proofs.AM.K.rd] using (hc ▸ h.ev c : TV.R _ _ _ _ (.one (.dat .bool t true)) (a.eval c))
    refine wpIn_cond hv ?_
    cases t with
    | true =>
      rw [know_same hc] at e
      exact wpIn_mono (ihx.1 R rd b s K r e F n C β a w hF hrd hY h) fun ex a' w' ⟨s', β', g1, g2, g3⟩ => ⟨s', β', g1, g2, g3.mono fun i hi => List.mem_append_left _ hi⟩
    | false =>
      rw [know_same hc] at e
      exact wpIn_mono (ihy.1 R rd b s K r e F n C β a w hF hrd hY h) fun ex a' w' ⟨s', β', g1, g2, g3⟩ => ⟨s', β', g1, g2, g3.mono fun i hi => List.mem_append_right _ hi⟩
  | block id c ih =>
    refine ⟨?_, by intro x' y' hxy; simp at hxy⟩
    intro R rd b s K r e F n C β a w hF hrd hY h
    refine wpIn_block ?_
    refine wpIn_mono (ih.1 R rd id s _ r e F n C β a w hF hrd hY h) fun ex a' w' ⟨s', β', h1, h2, h3⟩ => ?_
    cases ex with
    | normal => exact ⟨s', β', h1, h2, h3⟩
    | exit i =>
      simp only [Kt.at] at h1
      show if i = id then _ else _
      split at h1
      · rename_i hi; rw [if_pos hi]; exact ⟨s', β', h1, h2, h3⟩
      · rename_i hi; rw [if_neg hi]; exact ⟨s', β', h1, h2, h3⟩
    | ret => exact ⟨s', β', h1, h2, h3⟩
    | goto _ => simp [Kt.at] at h1
    | panic _ => simp [Kt.at] at h1
    | outgrown => simp [Kt.at] at h1
  | exit i => exact ⟨fun R rd b s K r e F n C β a w hF hrd hY h => wpIn_exit ⟨s, β, e, h, Ext.refl _ _ _⟩, by intro x' y' hxy; simp at hxy⟩
  | ret => exact ⟨fun R rd b s K r e F n C β a w hF hrd hY h => wpIn_ret ⟨s, β, e, h, Ext.refl _ _ _⟩, by intro x' y' hxy; simp at hxy⟩
  | loop c ih =>
    refine ⟨?_, by intro x' y' hxy; simp at hxy⟩
    intro R rd b s K r e F n C β a w hF hrd hY h
    simp only [arun] at e
    split at e
    · simp at e
    rename_i L hL
    split at e
    rotate_left
    · -- a loop over a map
      rename_i it hwalk
      split at e
      rotate_left
      · simp at e
      rename_i id ops rest
      split at e
      rotate_left
      · simp at e
      rename_i l hit
      split at e
      rotate_left
      · simp at e
      rename_i m k v es left fr hob
      split at e
      rotate_left
      · simp at e
      rename_i hok
      split at e
      rotate_left
      · simp at e
      rename_i o1 ol hops
      split at e
      rotate_left
      · simp at e
      rename_i it' d hop hg hdst
      split at e
      rotate_left
      · simp at e
      rename_i hit'
      subst hit'
      exact walk_sound hΓ (ih.2 _ _ rfl) hops hop hg hdst hit hob hok e hF hrd hY h
    split at e
    · simp at e
    rename_i x0 hx0
    split at e
    · simp at e
    rename_i ex hex
    generalize hf : (fun x => arun P Γ an c (KT (LA.kinds L.head) ⊕ ES L.exits) rd b (enc true s (Code.dsts c) L.ks L.head x) {
            norm := fun s' => (decAt s (Code.dsts c) L.ks (boxesOf L.head ++ vecsOf L.head) L.head s').map .inl
            exit := fun i s' => (ES.mk L.exits (some i) (fun la => decAt s (Code.dsts c) L.ks (boxesOf L.head ++ vecsOf L.head) la s')).map .inr
            ret := fun s' => (ES.mk L.exits none (fun la => decAt s (Code.dsts c) L.ks (boxesOf L.head ++ vecsOf L.head) la s')).map .inr }) = f at hex
    obtain ⟨m, hit⟩ := loopM_some hex
    refine wpIn_loop_rounds m ?_
    unfold decIn at hx0
    split at hx0
    rotate_left
    · simp at hx0
    rename_i xu ls hdec
    split at hx0
    rotate_left
    · simp at hx0
    rename_i hok
    simp only [Option.some.injEq] at hx0
    subst hx0
    obtain ⟨β1, hr1, hb1⟩ := h.reenc h.fine hdec hok rfl rfl (fun _ _ => rfl) (Nat.le_refl _) (fun l o hl _ _ => ⟨o.1, hl⟩) true
    obtain ⟨δ1, hb1⟩ := hb1 β [] (by simp) h.bsize
    have rounds : ∀ (m : Nat) (x : KT (LA.kinds L.head)) (βh : List Bl) (a : Act) (w : World), iterM f m x = some ex → Rel C (enc true s (Code.dsts c) L.ks L.head x) βh a w → (∃ δ, βh = β ++ δ) →
        Code.roundsIn F n P c (Post C s β (· ∈ Code.dsts (.loop c)) K r) m a w := by
      intro m
      induction m with
      | zero => intro x βh a w hi; simp [iterM] at hi
      | succ m ihm =>
        intro x βh a w hi hx hbh
        unfold iterM at hi
        obtain ⟨f1, f2, f3, f4⟩ := head_facts hok x
        have out : ∀ (key : Option Nat) (s' : AS) (β' : List Bl) (a' : Act) (w' : World) (e' : ES L.exits), Rel C s' β' a' w' → Ext (· ∈ Code.dsts c) (enc true s (Code.dsts c) L.ks L.head x) s' βh β' →
            ES.mk L.exits key (fun la => decAt s (Code.dsts c) L.ks (boxesOf L.head ++ vecsOf L.head) la s') = some e' → e' = ex →
            ∃ s2 β2, (match key with | some i => K.exit i s2 | none => K.ret s2) = some r ∧ Rel C s2 β2 a' w' ∧ Ext (· ∈ Code.dsts (.loop c)) s s2 β β2 := by
          intro key s' β' a' w' e' g1 g2 hmk hee
          subst hee
          obtain ⟨la, y, hd, hel⟩ := ES.elim_mk (f := fun key la x => match key with
            | some i => K.exit i (enc false s (Code.dsts c) L.ks la x)
            | none => K.ret (enc false s (Code.dsts c) L.ks la x)) hmk
          obtain ⟨⟨β2, q1, q2⟩, ls', h', hok'⟩ := decAt_sound h.fine h.bsize hbh g1 g2 f1 f2 rfl f3 f4 hd false
          refine ⟨_, β2, ?_, q1, enc_ext hok' y q2⟩
          rw [hel] at e
          cases key <;> exact e
        split at hi
        · rename_i y hfx
          rw [← hf] at hfx
          refine wpIn_mono (ih.1 _ rd b _ _ _ hfx F n C βh a w hF (hrd.mono hbh) (hY.mono (CxLe.refl _) hbh) hx) fun ex' a' w' ⟨s', β', g1, g2, g3⟩ => ?_
          cases ex' with
          | normal =>
            simp only [Kt.at, Option.map_eq_some_iff] at g1
            obtain ⟨y', hd, hy⟩ := g1
            cases hy
            obtain ⟨⟨β2, q1, q2⟩, _⟩ := decAt_sound h.fine h.bsize hbh g2 g3 f1 f2 rfl f3 f4 hd true
            exact ihm _ β2 a' w' hi q1 q2
          | exit i => simp only [Kt.at, Option.map_eq_some_iff] at g1; obtain ⟨_, _, hy⟩ := g1; simp at hy
          | ret => simp only [Kt.at, Option.map_eq_some_iff] at g1; obtain ⟨_, _, hy⟩ := g1; simp at hy
          | goto _ => simp [Kt.at] at g1
          | panic _ => simp [Kt.at] at g1
          | outgrown => simp [Kt.at] at g1
        · rename_i e' hfx
          rw [← hf] at hfx
          simp only [Option.some.injEq] at hi
          refine wpIn_mono (ih.1 _ rd b _ _ _ hfx F n C βh a w hF (hrd.mono hbh) (hY.mono (CxLe.refl _) hbh) hx) fun ex' a' w' ⟨s', β', g1, g2, g3⟩ => ?_
          cases ex' with
          | normal => simp only [Kt.at, Option.map_eq_some_iff] at g1; obtain ⟨_, _, hy⟩ := g1; simp at hy
          | exit i =>
            simp only [Kt.at, Option.map_eq_some_iff] at g1
            obtain ⟨e2, hmk, hy⟩ := g1
            cases hy
            obtain ⟨s2, β2, k1, k2, k3⟩ := out (some i) s' β' a' w' _ g2 g3 hmk hi
            exact ⟨s2, β2, k1, k2, k3⟩
          | ret =>
            simp only [Kt.at, Option.map_eq_some_iff] at g1
            obtain ⟨e2, hmk, hy⟩ := g1
            cases hy
            obtain ⟨s2, β2, k1, k2, k3⟩ := out none s' β' a' w' _ g2 g3 hmk hi
            exact ⟨s2, β2, k1, k2, k3⟩
          | goto _ => simp [Kt.at] at g1
          | panic _ => simp [Kt.at] at g1
          | outgrown => simp [Kt.at] at g1
        · simp at hi
    exact rounds m _ β1 a w hit hr1 ⟨δ1, hb1⟩
  | rangeFunc g ps assign body iha ihb =>
    refine ⟨?_, by intro x' y' hxy; simp at hxy⟩
    intro R rd b s K r e F n C β a w hF hrd hY h
    simp only [arun] at e
    split at e
    rotate_left
    · simp at e
    rename_i gf caps hg
    split at e
    rotate_left
    · simp at e
    rename_i d s1 hd hin
    have hds := hΓ.inl gf d hd
    obtain ⟨bs, hv, hb⟩ := h.ev1 hg
    refine wpIn_rangeFunc fun fn hfn => ?_
    obtain ⟨l, mark, w1, rr, δ, dl, he, h1, hrr, rfl, hrc, hL1, ht1, hE1⟩ := rangeIn_sound (P := P) hrd h hin fn ps assign body
    generalize hLd : s1.heap.length - 1 = L at *
    refine ⟨rr.blk, mark, w1, { target := .fn (.func gf) bs.toArray, args := #[.func (.yield rr.blk) #[] #[]] }, w1, gf, (.func (.yield rr.blk) #[] #[] :: bs).toArray, w1, he, ?_, fun f' _ => hF.fn f', ?_, fun hh => by simp [hF.depth] at hh, ?_⟩
    · simp only [resolve, hv]; simp [go_sem]
    · simp only [invoke, hds.1]
      congr 2
      simp
    · refine hF.calls ((hds.2 C (β ++ δ) _ R _ _ r s1 e { a with defers := mark ++ a.defers } w1 (.func (.yield rr.blk) #[] #[] :: bs) ?_ h1 ⟨⟨rr, hrr, rfl⟩, ?_⟩).mono ?_)
      · -- the rounds
        intro l' H' hl'
        simp only [lookY] at hl'
        split at hl'
        rotate_left
        · exact (hY.mono ((CxLe.push C s1 { a with defers := mark ++ a.defers })) ⟨δ, rfl⟩) l' H' hl'
        rename_i hll
        subst hll
        simp only [Option.some.injEq] at hl'
        subst hl'
        refine ⟨rr, hrr, fun C' hC' R' ts k r' s' e' β' a' w' vs hβ' h' hts => ?_⟩
        dsimp only at e'
        split at e'
        rotate_left
        · simp at e'
        rename_i f hfL
        split at e'
        rotate_left
        · simp at e'
        rename_i hsz
        obtain ⟨δ', rfl⟩ := hβ'
        have hrr' : (β ++ δ ++ δ')[L]? = some rr := get_app hrr
        obtain ⟨rc, q1, q2⟩ := h'.lp_at hfL hrr'
        rw [hrc] at q1; cases q1
        have q := h'.frs ⟨s1.tmps, s1.marks, { a with defers := mark ++ a.defers }⟩ (hC'.frs _ (List.mem_cons_self ..))
        have hlen := All2.len hts
        have hy := run_yield (P := P) (args := vs.toArray) q2 (by simp; omega)
        refine ⟨fn, _, assign, body, hy, roundIn_of_wpIn trivial ?_⟩
        have hfold : ((ps.zip vs.toArray).foldl (fun (tm : Array Value) p => tm.setIfInBounds p.1 p.2) a.tmps) = ((ps.toList.zip vs).foldl (fun (tm : Array Value) p => tm.setIfInBounds p.1 p.2) a.tmps) := by
          rw [← Array.foldl_toList]; simp
        have hCC : CxLe C (C'.push s' a') := (CxLe.push C s1 { a with defers := mark ++ a.defers }).trans (hC'.trans (CxLe.push C' s' a'))
        have hYY : ∀ {βx : List Bl}, (∃ δx, βx = β ++ δ ++ δ' ++ δx) → YOK P (C'.push s' a') βx Γ.yl := fun ⟨δx, e⟩ => hY.mono hCC ⟨δ ++ δ' ++ δx, by rw [e]; simp⟩
        have h0 : Rel (C'.push s' a') { tmps := putArgs s1.tmps ps.toList ts, heap := s'.heap, marks := [] } (β ++ δ ++ δ') { tmps := (ps.zip vs.toArray).foldl (fun (tm : Array Value) p => tm.setIfInBounds p.1 p.2) a.tmps, defers := [] } w' := by
          refine h'.enter ?_ ?_
          · rw [hfold, foldl_size, putArgs_len]; exact q.tsize
          · intro i t ht
            rw [hfold]
            exact putArgs_R ps.toList ts s1.tmps a.tmps vs q.tsize q.tm hts i t ht
        have hrd2 : ∀ {βx : List Bl}, (∃ δx, βx = β ++ δ ++ δ' ++ δx) → RdOK (Fence.wide.inRound rr.blk) βx (some L) := fun ⟨δx, e⟩ => ⟨rr, _, by rw [e]; exact get_app hrr', hrc, rfl⟩
        refine wpIn_mono (iha.1 R' (some L) b _ _ r' e' (Fence.wide.inRound rr.blk) 0 _ _ _ _ (.inr ⟨rr.blk, rfl⟩) (hrd2 ⟨[], by simp⟩) (hYY ⟨[], by simp⟩) h0) fun ex a2 w2 ⟨s2, β2, g1, g2, g3⟩ => ?_
        cases ex with
        | normal =>
          simp only [Kt.at] at g1
          split at g1
          rotate_left
          · simp at g1
          rename_i hb2
          obtain ⟨f2, hf2⟩ := hat_eq hb2 (by simp)
          obtain ⟨δ2, hδ2⟩ := g3.bx
          have hr2 : β2[L]? = some rr := by rw [hδ2]; exact get_app hrr'
          obtain ⟨rc2, p1, p2⟩ := g2.lp_at hf2 hr2
          rw [hrc] at p1; cases p1
          refine ⟨_, run_beginRound p2 rfl, ?_⟩
          have h2 := g2.lp_turn hf2 hr2 hrc .busy true
          refine wpIn_mono (ihb.1 R' (some L) b _ _ r' g1 (Fence.wide.inRound rr.blk) 0 _ _ _ _ (.inr ⟨rr.blk, rfl⟩) (hrd2 ⟨δ2, hδ2⟩) (hYY ⟨δ2, hδ2⟩) h2) fun ex a3 w3 ⟨s3, β3, k1, k2, k3⟩ => ?_
          cases ex with
          | normal => exact roundEnd_sound (s0 := { tmps := putArgs s1.tmps ps.toList ts, heap := s'.heap, marks := [] }) (st := .ready) rfl g3 k3 rfl hfL (.inr ⟨rfl, rfl⟩) (by simp) hrr' hrc k2 k1
          | ret => exact roundEnd_sound (s0 := { tmps := putArgs s1.tmps ps.toList ts, heap := s'.heap, marks := [] }) (st := .ret) rfl g3 k3 rfl hfL (.inl rfl) (by simp) hrr' hrc k2 k1
          | exit i => exact roundEnd_sound (s0 := { tmps := putArgs s1.tmps ps.toList ts, heap := s'.heap, marks := [] }) (st := .exit i) rfl g3 k3 rfl hfL (.inl rfl) (by simp) hrr' hrc k2 k1
          | goto _ => simp [Kt.at] at k1
          | panic _ => simp [Kt.at] at k1
          | outgrown => simp [Kt.at] at k1
        | exit i => simp [Kt.at] at g1
        | ret => simp [Kt.at] at g1
        | goto _ => simp [Kt.at] at g1
        | panic _ => simp [Kt.at] at g1
        | outgrown => simp [Kt.at] at g1
      · -- what is captured
        have := call_caps (w := w1) (N := C.N s1.heap (β ++ δ) w1) (Nf := C.fresh s1.heap (β ++ δ) w1) (β := β ++ δ) (hb.mono fun l b ⟨r, hr, e⟩ => ⟨r, get_app hr, e⟩)
        exact this
      · -- behind it
        rintro ee w2 ⟨v, h2, tv, β2, rfl, hk, hrel2, _, hgr⟩
        obtain ⟨δ2, rfl⟩ := hgr.bx
        have hr2 : (β ++ δ ++ δ2)[L]? = some rr := get_app hrr
        have fin : ∀ (st : LS), hat h2 L = .lp st → st ≠ .busy → ∃ w4, (Instr.endLoop rr.blk).run P w2 = .ok st.pe w4 ∧ Rel C { s1 with heap := h2.set L (true, .dead) } (β ++ δ ++ δ2) { a with defers := mark ++ a.defers } w4 := by
          intro st hst hne
          obtain ⟨f2, hf2⟩ := hat_eq hst (by simp)
          obtain ⟨rc2, p1, p2⟩ := hrel2.lp_at hf2 hr2
          refine ⟨_, run_endLoop p2 (by cases st <;> simp_all [LS.st]), hrel2.lp_end hf2 hr2 _⟩
        have hext : Ext (· ∈ Code.dsts (.rangeFunc g ps assign body)) s { s1 with heap := h2.set L (true, .dead) } β (β ++ δ ++ δ2) := by
          have hg' := grown_ext (s := s1) (β := β ++ δ) hgr (· ∈ Code.dsts (.rangeFunc g ps assign body))
          have h12 := (hE1.mono (d' := (· ∈ Code.dsts (.rangeFunc g ps assign body))) fun i hi => hi.elim).trans hg'
          have hLs : s.heap.length ≤ L := by
            have := hE1.hl
            have hl1 := (List.getElem?_eq_some_iff.1 hL1).1
            apply Nat.le_of_not_lt
            intro hlt
            cases rd with
            | none => simp only [rangeIn, Option.some.injEq] at hin; subst hin; simp at hLd; omega
            | some L0 =>
              simp only [rangeIn] at hin
              split at hin
              · simp only [Option.some.injEq] at hin; subst hin; simp at hLd; omega
              · simp at hin
          refine ⟨h12.bx, h12.tm, h12.tl, by simpa using h12.hl, fun l o hl ho => ?_, h12.mks, fun l hl => ?_⟩
          · have ho : (h2.set L (true, AObj.dead))[l]? = some (false, o) := ho
            rw [List.getElem?_set_ne (by omega)] at ho
            exact h12.hp l o hl ho
          · have hll := (List.getElem?_eq_some_iff.1 hl).1
            show (h2.set L (true, AObj.dead))[l]? = _
            rw [List.getElem?_set_ne (by omega)]
            exact h12.hm l hl
        dsimp only at hk
        split at hk
        · rename_i hst
          obtain ⟨w4, x1, x2⟩ := fin _ hst (by simp)
          exact ⟨none, w4, x1, _, _, hk, x2, hext⟩
        · rename_i hst
          obtain ⟨w4, x1, x2⟩ := fin _ hst (by simp)
          exact ⟨some .ret, w4, x1, wpIn_ret ⟨_, _, hk, x2, hext⟩⟩
        · rename_i i hst
          obtain ⟨w4, x1, x2⟩ := fin _ hst (by simp)
          exact ⟨some (.exit i), w4, x1, wpIn_exit ⟨_, _, hk, x2, hext⟩⟩
        · simp at hk
  | _ => exact ⟨by intro R rd b s K r e; simp [arun] at e, by intro x' y' hxy; simp at hxy⟩

theorem arun_sound (hΓ : Γ.Sound P) (hm : P.follows .mixedOrders = true) {an : Ann} (c : Code) (R : Type) (rd : Option Nat) (b : Nat) (s : AS) (K : Kt R) (r : R) (e : arun P Γ an c R rd b s K = some r)
    (F : Fence) (n : Nat) (C : Cx) (β : List Bl) (a : Act) (w : World) (hF : FW F) (hrd : RdOK F β rd) (hY : YOK P C β Γ.yl) (h : Rel C s β a w) :
    c.wpIn F n P (Post C s β (· ∈ Code.dsts c) K r) a w := (arun_sound2 hΓ hm c).1 R rd b s K r e F n C β a w hF hrd hY h
end
end Go.Proofs.AM
