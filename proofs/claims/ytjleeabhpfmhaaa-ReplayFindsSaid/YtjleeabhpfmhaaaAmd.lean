/- A machine that reckons what a function of the program comes to, and that what it reckons is what the program does. No condition. -/
import Derived.Test.YtjleeabhpfmhaaaAmc
import Derived.LoopNIn
import Derived.Scope
import Derived.RangeFuncLeaves
import Derived.RangeFuncRecord
import Derived.Shelf.Spec.SlicesGrow
import Derived.ChangeArms
import Derived.WideShapes
import Derived.Carry
import Derived.ChangeShapes
import Derived.OpenShut
import Derived.SizedLaws
set_option maxRecDepth 2000
set_option linter.unusedVariables false
set_option linter.unusedSimpArgs false
section
namespace Go.Proofs.AM
open Go Go.RowKit

abbrev Exits := List (Option Nat × LA)

@[reducible] def ES : Exits → Type
  | [] => Empty
  | p :: es => match es with
    | [] => KT (LA.kinds p.2)
    | q :: r => KT (LA.kinds p.2) ⊕ ES (q :: r)

def ES.mk : (es : Exits) → Option Nat → ((la : LA) → Option (KT (LA.kinds la))) → Option (ES es)
  | [], _, _ => none
  | [p], key, dec => if p.1 = key then dec p.2 else none
  | p :: q :: r, key, dec => if p.1 = key then (dec p.2).map .inl else (ES.mk (q :: r) key dec).map .inr

def ES.elim {R : Type} : (es : Exits) → ES es → ((key : Option Nat) → (la : LA) → KT (LA.kinds la) → R) → R
  | [], e, _ => nomatch e
  | [p], x, f => f p.1 p.2 x
  | p :: q :: r, x, f => match x with
    | .inl x => f p.1 p.2 x
    | .inr y => ES.elim (q :: r) y f

theorem ES.elim_mk {R : Type} {f : (key : Option Nat) → (la : LA) → KT (LA.kinds la) → R} {dec : (la : LA) → Option (KT (LA.kinds la))} {key : Option Nat} : ∀ {es : Exits} {e : ES es}, ES.mk es key dec = some e →
    ∃ la x, dec la = some x ∧ ES.elim es e f = f key la x
  | [], e, _ => nomatch e
  | [p], e, h => by
    unfold ES.mk at h
    split at h
    · rename_i hk
      exact ⟨p.2, e, h, by rw [← hk]; rfl⟩
    · simp at h
  | p :: q :: r, e, h => by
    unfold ES.mk at h
    split at h
    · rename_i hk
      cases hd : dec p.2 with
      | none => simp [hd] at h
      | some x =>
        simp only [hd, Option.map_some, Option.some.injEq] at h
        subst h
        exact ⟨p.2, x, hd, by rw [← hk]; rfl⟩
    · cases hd : ES.mk (q :: r) key dec with
      | none => simp [hd] at h
      | some y =>
        simp only [hd, Option.map_some, Option.some.injEq] at h
        subst h
        exact ES.elim_mk (es := q :: r) hd

structure LoopAnn where
  head : LA
  ks : List Nat
  exits : Exits
  walk : Option Nat := none

section
variable {P : Program} {F : Fence} {n : Nat} {Q : Exit → Act → World → Prop} {b : Frame} {a : Act} {k : List Go.Item} {cs : List Frame} {w : World}
theorem stepR_scope {c : Code} : step P (lone (b.atR a (.code (.scope c) :: k)) cs w) = .next (lone (b.atR a (.code c :: .inScope c :: k)) cs w) :=
  step_lone_go (by simp [stepG, stepG.exec, Frame.atR])
theorem stepR_inScope {c : Code} : step P (lone (b.atR a (.inScope c :: k)) cs w) = .next (lone (b.atR a k) cs w) :=
  step_lone_go (by simp [stepG, stepG.exec, Frame.atR])

theorem wpIn_scope {c : Code} (h : c.wpIn F n P (Exit.noGoto Q) a w) : (Code.scope c).wpIn F n P Q a w := by
  intro b k cs hro hb hr
  have h0 : (lone (b.atR a (.code (.scope c) :: k)) cs w).fenced P F := fenced_calm hb hr rfl
  obtain ⟨e, a₁, w₁, hq, harr⟩ := h b (.inScope c :: k) cs hro hb hr
  cases e with
  | normal => exact ⟨.normal, a₁, w₁, hq, .head h0 stepR_scope (StepsIn.trans harr (.one (fenced_calm hb hr rfl) stepR_inScope))⟩
  | exit id =>
    have hx : exitTo id (.inScope c :: k) = exitTo id k := by simp [exitTo]
    exact ⟨.exit id, a₁, w₁, hq, fun k' hk => .head h0 stepR_scope (harr.1 k' (by rw [hx]; exact hk)),
      fun hr' hk => let ⟨k₁, h1, h2⟩ := harr.2 hr' (by rw [hx]; exact hk); ⟨k₁, h1, .head h0 stepR_scope h2⟩⟩
  | goto l => exact hq.elim
  | ret => exact ⟨_, a₁, w₁, hq, .of_steps (.one h0 stepR_scope) harr⟩
  | panic ch => exact ⟨_, a₁, w₁, hq, .of_steps (.one h0 stepR_scope) harr⟩
  | outgrown => exact ⟨_, a₁, w₁, hq, .of_steps (.one h0 stepR_scope) harr⟩
end

structure Ann where
  loops : List (Nat × LoopAnn)
  cuts : List (Nat × LA × List Nat)

def look {α : Type} (b : Nat) : List (Nat × α) → Option α
  | [] => none
  | p :: r => if p.1 = b then some p.2 else look b r

def lookL {α : Type} (b n : Nat) (l : List (Nat × α)) : Option α := match look (b + 1000 * (n + 1)) l with
  | some x => some x
  | none => look b l

def Code.fst : Code → Option Nat
  | .region id _ _ => some id
  | .seq a b => match Code.fst a with
    | some i => some i
    | none => Code.fst b
  | .cond _ a b => match Code.fst a with
    | some i => some i
    | none => Code.fst b
  | .block _ c => Code.fst c
  | .loop c => Code.fst c
  | .rangeFunc _ _ a b => match Code.fst a with
    | some i => some i
    | none => Code.fst b
  | _ => none

def Ann.cut (an : Ann) (c : Code) : Option (LA × List Nat) := match an.cuts with
  | [] => none
  | l => match Code.fst c with
    | none => none
    | some i => look i l

def AS.calm (s : AS) : AS := enc true s [] [] [] ()

def decAt (s : AS) (D ks hb : List Nat) (la : LA) (s' : AS) : Option (KT (LA.kinds la)) :=
  match decL s' la with
  | some (xu, ls) => if (okL s.heap s'.heap D ks la ls && unchFrom (ks ++ boxesOf la ++ vecsOf la) s.heap s'.heap 0 && hb.all (fun l => decide (s.heap.length ≤ l) || (boxesOf la ++ vecsOf la).contains l) && s'.marks.length == s.marks.length) = true then some (KT.down xu) else none
  | none => none

def decIn (s : AS) (D ks : List Nat) (la : LA) : Option (KT (LA.kinds la)) :=
  match decL s la with
  | some (xu, ls) => if okL s.heap s.heap D ks la ls = true then some (KT.down xu) else none
  | none => none

def Code.dsts : Code → List Nat
  | .region _ ops _ => ops.toList.filterMap Oper.dst
  | .seq a b => Code.dsts a ++ Code.dsts b
  | .cond _ a b => Code.dsts a ++ Code.dsts b
  | .block _ c => Code.dsts c
  | .loop c => Code.dsts c
  | .rangeFunc _ ps a b => ps.toList ++ Code.dsts a ++ Code.dsts b
  | .scope c => Code.dsts c
  | _ => []

structure Kt (R : Type) where
  norm : AS → Option R
  exit : Nat → AS → Option R
  ret : AS → Option R

def Kt.at {R : Type} (K : Kt R) : Exit → AS → Option R
  | .normal, s => K.norm s
  | .exit i, s => K.exit i s
  | .ret, s => K.ret s
  | _, _ => none

def AS.know (s : AS) (c : Operand) (b : Bool) : AS := match c with
  | .tmp d => s.put (some d) (litTV b)
  | _ => s

def Env.plain (Γ : Env) : Env := { Γ with inl := fun _ => none, yl := [] }

def rangeIn (s : AS) : Option Nat → Option AS
  | none => some { s with heap := s.heap ++ [(true, .mark)] ++ [(true, .lp .ready)], marks := s.heap.length :: s.marks }
  | some L => match hat s.heap L with
    | .lp _ => some { s with heap := s.heap ++ [(true, .lp .ready)] }
    | _ => none

def roundEnd {R : Type} (L : Nat) (f : Bool) (st : LS) (k : Heap → TV → Option R) (s : AS) : Option R := match hat s.heap L with
  | .lp .busy => k (s.heap.set L (f, .lp st)) (.one (.dat .bool (st == .ready) true))
  | _ => none

def goodM {A X E : Type} (f : A → List A → X → Option (X ⊕ E)) (fin : X → Option (X ⊕ E)) : Nat → List A → X → E → Prop
  | 0, L, x, e => L = [] ∧ fin x = some (.inr e)
  | n + 1, L, x, e => ∀ (j : Nat) (p : A), L[j]? = some p → match f p (L.eraseIdx j) x with
    | some (.inl y) => goodM f fin n (L.eraseIdx j) y e
    | some (.inr e') => e' = e
    | none => False

open Classical in
noncomputable def anyM {A X E : Type} (f : A → List A → X → Option (X ⊕ E)) (fin : X → Option (X ⊕ E)) (L : List A) (x : X) : Option E :=
  if h : ∃ e, goodM f fin L.length L x e then some (Classical.choose h) else none

theorem anyM_some {A X E : Type} {f : A → List A → X → Option (X ⊕ E)} {fin : X → Option (X ⊕ E)} {L : List A} {x : X} {e : E} (h : anyM f fin L x = some e) : goodM f fin L.length L x e := by
  unfold anyM at h
  split at h
  · rename_i hh
    simp only [Option.some.injEq] at h
    subst h
    exact Classical.choose_spec hh
  · simp at h

def goodP {A X E : Type} (f : A → List A → X → Option (X ⊕ E)) (fin : X → Option (X ⊕ E)) (T : E → Prop) : Nat → List A → X → Prop
  | 0, L, x => L = [] ∧ ∃ e, fin x = some (.inr e) ∧ T e
  | n + 1, L, x => ∀ (j : Nat) (p : A), L[j]? = some p → match f p (L.eraseIdx j) x with
    | some (.inl y) => goodP f fin T n (L.eraseIdx j) y
    | some (.inr e) => T e
    | none => False

theorem goodM_P {A X E : Type} {f : A → List A → X → Option (X ⊕ E)} {fin : X → Option (X ⊕ E)} {e : E} {T : E → Prop} (hT : T e) : ∀ {n : Nat} {L : List A} {x : X}, goodM f fin n L x e → goodP f fin T n L x
  | 0, _, _, h => ⟨h.1, e, h.2, hT⟩
  | n + 1, L, x, h => fun j p hj => by
    have h1 := h j p hj
    show (match f p (L.eraseIdx j) x with
      | some (.inl y) => goodP f fin T n (L.eraseIdx j) y
      | some (.inr e) => T e
      | none => False)
    cases hfp : f p (L.eraseIdx j) x with
    | none => rw [hfp] at h1; exact h1
    | some z =>
      rw [hfp] at h1
      cases z with
      | inl y => exact goodM_P hT h1
      | inr e' =>
        have h2 : e' = e := h1
        rw [h2]; exact hT

open Classical in
noncomputable def lateM {A X E R : Type} (f : A → List A → X → Option (X ⊕ E)) (fin : X → Option (X ⊕ E)) (L : List A) (x : X) (k : E → Option R) : Option R :=
  if h : ∃ r, goodP f fin (fun e => k e = some r) L.length L x then some (Classical.choose h) else none

theorem lateM_some {A X E R : Type} {f : A → List A → X → Option (X ⊕ E)} {fin : X → Option (X ⊕ E)} {L : List A} {x : X} {k : E → Option R} {r : R} (h : lateM f fin L x k = some r) : goodP f fin (fun e => k e = some r) L.length L x := by
  unfold lateM at h
  split at h
  · rename_i hh
    simp only [Option.some.injEq] at h
    subst h
    exact Classical.choose_spec hh
  · simp at h

noncomputable def walkM {A X E R : Type} (late : Bool) (f : A → List A → X → Option (X ⊕ E)) (fin : X → Option (X ⊕ E)) (L : List A) (x : X) (k : E → Option R) : Option R :=
  match late with
  | true => lateM f fin L x k
  | false => match anyM f fin L x with
    | none => none
    | some e => k e

theorem walkM_some {A X E R : Type} {late : Bool} {f : A → List A → X → Option (X ⊕ E)} {fin : X → Option (X ⊕ E)} {L : List A} {x : X} {k : E → Option R} {r : R} (h : walkM late f fin L x k = some r) : goodP f fin (fun e => k e = some r) L.length L x := by
  unfold walkM at h
  split at h
  · exact lateM_some h
  · split at h
    · simp at h
    · rename_i e he
      exact goodM_P (T := fun e => k e = some r) h (anyM_some he)

def wkSlot (n : Nat) : Nat := if 50000 ≤ n then n - 50000 else n

def unwalk (s : AS) (l m : Nat) (k v : Bool × K) (es : List (k.2.den × v.2.den)) (fr : Bool) : AS := (s.upd l .dead).upd m (.map k v es fr)

def laFree (l : Nat) (la : LA) : Bool := !(boxesOf la ++ vecsOf la).contains l

def walkOK (s : AS) (D : List Nat) (L : LoopAnn) (it l m : Nat) : Bool :=
  l != m && !D.contains it && !L.ks.contains l && !L.ks.contains m && (match s.heap[m]? with
    | some (_, .dead) => true
    | _ => false) && laFree l L.head && laFree m L.head && L.exits.all fun p => laFree l p.2 && laFree m p.2

noncomputable def walkLoop (late : Bool) (P : Program) (Γ : Env) (D : List Nat) (L : LoopAnn) (s : AS) (ops : Array Oper) (ol : List Oper) (d l m : Nat) (k v : Bool × K) (es left : List (k.2.den × v.2.den)) (fr : Bool)
    (run : AS → Kt (KT (LA.kinds L.head) ⊕ ES L.exits) → Option (KT (LA.kinds L.head) ⊕ ES L.exits)) {R : Type} (K : Kt R) : Option R :=
  match decIn s D L.ks L.head with
  | none => none
  | some x0 => walkM late (X := KT (LA.kinds L.head)) (E := ES L.exits)
      (fun p lf x => aops P Γ ops ol ((enc true (s.upd l (.walk m k v es lf (some p) fr)) D L.ks L.head x).put (some d) (.tup [(false, [.dat .bool true true]), (k.1, k.2.cells fr p.1), (v.1, v.2.cells fr p.2)])) fun s1 => run s1 {
        norm := fun s' => (decAt (s.upd l (.walk m k v es lf (some p) fr)) D L.ks (boxesOf L.head ++ vecsOf L.head) L.head s').map .inl
        exit := fun i s' => (ES.mk L.exits (some i) (fun la => decAt (s.upd l (.walk m k v es lf (some p) fr)) D L.ks (boxesOf L.head ++ vecsOf L.head) la s')).map .inr
        ret := fun s' => (ES.mk L.exits none (fun la => decAt (s.upd l (.walk m k v es lf (some p) fr)) D L.ks (boxesOf L.head ++ vecsOf L.head) la s')).map .inr })
      (fun x => aops P Γ ops ol ((enc true (unwalk s l m k v es fr) D L.ks L.head x).put (some d) (.tup [(false, [.dat .bool false true])])) fun s1 => run s1 {
        norm := fun _ => none
        exit := fun i s' => (ES.mk L.exits (some i) (fun la => decAt (unwalk s l m k v es fr) D L.ks (boxesOf L.head ++ vecsOf L.head) la s')).map .inr
        ret := fun s' => (ES.mk L.exits none (fun la => decAt (unwalk s l m k v es fr) D L.ks (boxesOf L.head ++ vecsOf L.head) la s')).map .inr })
      left x0 fun e => ES.elim L.exits e fun key la x => match key with
      | some i => K.exit i (enc false (unwalk s l m k v es fr) D L.ks la x)
      | none => K.ret (enc false (unwalk s l m k v es fr) D L.ks la x)

def unroll {R : Type} (run : AS → Kt R → Option R) (K : Kt R) : Nat → AS → Option R
  | 0, _ => none
  | n + 1, s => run s { K with norm := fun s' => unroll run K n s' }

noncomputable def arun (P : Program) (Γ : Env) (an : Ann) : Code → (R : Type) → Option Nat → Nat → AS → Kt R → Option R
  | .skip, _, _, _, s, K => K.norm s
  | .region id ops draw, _, _, _, s, K => match draw with
    | true => adrawT P Γ Γ.plain ops s K.norm
    | false => aops P Γ ops ops.toList s (fun s' => K.norm (Γ.shut id s'))
  | .seq x y, R, rd, b, s, K => match an.cut y with
    | none => arun P Γ an x R rd b s { K with norm := fun s' => arun P Γ an y R rd b s' K }
    | some (la, ks) => match arun P Γ an x (KT (LA.kinds la)) rd b s.calm { norm := fun s' => decAt s (Code.dsts x) ks [] la s', exit := fun _ _ => none, ret := fun _ => none } with
      | none => none
      | some v => arun P Γ an y R rd b (enc false s (Code.dsts x) ks la v) K
  | .cond c x y, R, rd, b, s, K => match s.ev c with
    | .one (.dat .bool t true) => cond t (arun P Γ an x R rd b (s.know c true) K) (arun P Γ an y R rd b (s.know c false) K)
    | _ => none
  | .block id c, R, rd, _, s, K => arun P Γ an c R rd id s { K with exit := fun i s' => if i = id then K.norm s' else K.exit i s' }
  | .loop c, R, rd, b, s, K => match lookL b s.heap.length an.loops with
    | none => none
    | some L => match L.walk with
     | none => match decIn s (Code.dsts c) L.ks L.head with
      | none => none
      | some x0 => match loopM (X := KT (LA.kinds L.head)) (E := ES L.exits) (fun x => arun P Γ an c (KT (LA.kinds L.head) ⊕ ES L.exits) rd b (enc true s (Code.dsts c) L.ks L.head x) {
            norm := fun s' => (decAt s (Code.dsts c) L.ks (boxesOf L.head ++ vecsOf L.head) L.head s').map .inl
            exit := fun i s' => (ES.mk L.exits (some i) (fun la => decAt s (Code.dsts c) L.ks (boxesOf L.head ++ vecsOf L.head) la s')).map .inr
            ret := fun s' => (ES.mk L.exits none (fun la => decAt s (Code.dsts c) L.ks (boxesOf L.head ++ vecsOf L.head) la s')).map .inr }) x0 with
        | none => none
        | some e => ES.elim L.exits e fun key la x => match key with
          | some i => K.exit i (enc false s (Code.dsts c) L.ks la x)
          | none => K.ret (enc false s (Code.dsts c) L.ks la x)
     | some it => if 100000 ≤ it then unroll (fun s1 K1 => arun P Γ an c R rd b s1 K1) K (it - 100000) s else match c with
      | .seq (.region id ops false) rest => match s.tmps[wkSlot it]? with
        | some (.one (.wk l)) => match hat s.heap l with
          | .walk m k v es left none fr => if walkOK s (Code.dsts (.seq (.region id ops false) rest)) L (wkSlot it) l m = true then match ops.toList with
            | o1 :: ol => match o1.op, o1.guard, o1.dst with
              | .next (.tmp it') false, none, some d => if it' = wkSlot it then
                  walkLoop (decide (50000 ≤ it)) P Γ (Code.dsts (.seq (.region id ops false) rest)) L s ops ol d l m k v es left fr (fun s1 K1 => arun P Γ an rest (KT (LA.kinds L.head) ⊕ ES L.exits) rd b s1 K1) K
                else none
              | _, _, _ => none
            | [] => none
            else none
          | _ => none
        | _ => none
      | _ => none
  | .rangeFunc g ps assign body, R, rd, b, s, K => match s.ev g with
    | .one (.fn gf caps) => match Γ.inl gf, rangeIn s rd with
      | some d, some s1 =>
        d.run ((s1.heap.length - 1, fun R' h ts k => match h[s1.heap.length - 1]? with
            | some (f, .lp .ready) => if ts.length = ps.size then
                arun P Γ an assign R' (some (s1.heap.length - 1)) b { tmps := putArgs s1.tmps ps.toList ts, heap := h, marks := [] } {
                  norm := fun s2 => match hat s2.heap (s1.heap.length - 1) with
                    | .lp .ready => arun P Γ an body R' (some (s1.heap.length - 1)) b { s2 with heap := s2.heap.set (s1.heap.length - 1) (true, .lp .busy) } {
                        norm := roundEnd (s1.heap.length - 1) f .ready k
                        exit := fun i => roundEnd (s1.heap.length - 1) true (.exit i) k
                        ret := roundEnd (s1.heap.length - 1) true .ret k }
                    | _ => none
                  exit := fun _ _ => none
                  ret := fun _ => none }
              else none
            | _ => none) :: Γ.yl) R s1.heap (.one (.yl (s1.heap.length - 1)) :: caps.map (fun l => .one (.ptr l 0)))
          (fun h _ => match hat h (s1.heap.length - 1) with
            | .lp .ready => K.norm { s1 with heap := h.set (s1.heap.length - 1) (true, .dead) }
            | .lp .ret => K.ret { s1 with heap := h.set (s1.heap.length - 1) (true, .dead) }
            | .lp (.exit i) => K.exit i { s1 with heap := h.set (s1.heap.length - 1) (true, .dead) }
            | _ => none)
      | _, _ => none
    | _ => none
  | .exit i, _, _, _, s, K => K.exit i s
  | .ret, _, _, _, s, K => K.ret s
  | .scope c, R, rd, b, s, K => arun P Γ an c R rd b s K
  | .label _, _, _, _, s, K => K.norm s
  | _, _, _, _, _, _ => none

section
variable {P : Program} {Γ : Env} {C : Cx} {F : Fence} {n : Nat}

def Post (C : Cx) (s : AS) (β : List Bl) (d : Nat → Prop) {R : Type} (K : Kt R) (r : R) (e : Exit) (a' : Act) (w' : World) : Prop :=
  ∃ s' β', K.at e s' = some r ∧ Rel C s' β' a' w' ∧ Ext d s s' β β'

theorem know_same {s : AS} {c : Operand} {b : Bool} (e : s.ev c = .one (.dat .bool b true)) : s.know c b = s := by
  cases c with
  | tmp d =>
    have hd : s.tmps[d]? = some (.one (.dat .bool b true)) := by
      simp only [AS.ev] at e
      cases hx : s.tmps[d]? with
      | none => simp [hx] at e
      | some t => simp [hx] at e; rw [e]
    exact put_same hd
  | _ => rfl

theorem unchFrom_ok {skip : List Nat} : ∀ {h0 h : Heap} {i : Nat}, unchFrom skip h0 h i = true → h0.length ≤ h.length ∧ ∀ (l : Nat) (o : Bool × AObj), h0[l]? = some o → (i + l) ∉ skip → ∃ p, h[l]? = some p ∧ (p.1 = false ∨ (o.1 = true ∧ o.2.isMark = true))
  | [], h, i, _ => ⟨by simp, fun l o hl => by simp at hl⟩
  | _ :: _, [], i, e => by simp [unchFrom] at e
  | o :: h0, p :: h, i, e => by
    simp only [unchFrom, Bool.and_eq_true, Bool.or_eq_true] at e
    obtain ⟨e1, e2⟩ := e
    obtain ⟨i1, i2⟩ := unchFrom_ok e2
    refine ⟨by simp; omega, fun l q hl hs => ?_⟩
    cases l with
    | zero =>
      simp only [List.getElem?_cons_zero, Option.some.injEq] at hl
      subst hl
      refine ⟨p, rfl, ?_⟩
      rcases e1 with (h | h) | h
      · exact absurd (by simpa using h) hs
      · left; simpa using h
      · right; exact h
    | succ l => exact i2 l q (by simpa using hl) (by rwa [show i + 1 + l = i + (l + 1) by omega])

theorem isMark_eq {o : AObj} (h : o.isMark = true) : o = .mark := by cases o <;> simp [AObj.isMark] at h; rfl

theorem decAt_sound {s s' : AS} {β β' : List Bl} {a : Act} {w : World} {D ks hb : List Nat} {la : LA} {y : KT (LA.kinds la)} {S : AS} {βh : List Bl}
    (hf : s.Fine C) (hs : β.length = s.heap.length) (hβ : ∃ δ, βh = β ++ δ) (h : Rel C s' β' a w) (hE : Ext (· ∈ D) S s' βh β') (hlen : s.heap.length ≤ S.heap.length) (htl : S.tmps.length = s.tmps.length) (hms : S.marks = s.marks)
    (htm : ∀ i, i ∉ D → S.tmps[i]? = s.tmps[i]?)
    (hobj : ∀ (l : Nat) (o : Bool × AObj), s.heap[l]? = some o → l ∉ ks → l ∉ hb → S.heap[l]? = some ((o.1 && o.2.isMark), o.2))
    (e : decAt s D ks hb la s' = some y) (hd : Bool) :
    (∃ β2, Rel C (enc hd s D ks la y) β2 a w ∧ ∃ δ, β2 = β ++ δ) ∧ ∃ ls h', okL s.heap h' D ks la ls = true := by
  unfold decAt at e
  split at e
  rotate_left
  · simp at e
  rename_i xu ls hdec
  split at e
  rotate_left
  · simp at e
  rename_i hc
  simp only [Option.some.injEq] at e
  subst e
  simp only [Bool.and_eq_true] at hc
  obtain ⟨⟨⟨hok, hun⟩, hhb⟩, hmk⟩ := hc
  obtain ⟨ms, hmm⟩ := hE.mks
  have hmarks : s'.marks = s.marks := by
    rw [hms] at hmm
    have hl : s'.marks.length = s.marks.length := by simpa using hmk
    rw [hmm] at hl
    have : ms = [] := by
      cases ms with
      | nil => rfl
      | cons _ _ => simp at hl; omega
    rw [hmm, this]; rfl
  obtain ⟨u1, u2⟩ := unchFrom_ok hun
  obtain ⟨δ1, rfl⟩ := hβ
  obtain ⟨δ2, rfl⟩ := hE.bx
  refine ⟨?_, ls, s'.heap, hok⟩
  have hun' : ∀ (l : Nat) (o : Bool × AObj), s.heap[l]? = some o → l ∉ ks → l ∉ boxesOf la ++ vecsOf la → ∃ f, s'.heap[l]? = some (f, o.2) := by
    intro l o hl1 hk hbx
    obtain ⟨p, hp, hp2⟩ := u2 l o hl1 (by
      rw [Nat.zero_add]
      simp only [List.append_assoc, List.mem_append, not_or] at hbx ⊢
      exact ⟨hk, hbx.1, hbx.2⟩)
    have hnb : l ∉ hb := fun hm => by
      rw [List.all_eq_true] at hhb
      have hll := (List.getElem?_eq_some_iff.1 hl1).1
      rcases (by simpa using hhb l hm : s.heap.length ≤ l ∨ (l ∈ boxesOf la ∨ l ∈ vecsOf la)) with h' | h'
      · omega
      · exact hbx (by simpa using h')
    have hh := hobj l o hl1 hk hnb
    rcases hp2 with hp2 | ⟨hp2, hp3⟩
    · obtain ⟨p1, p2⟩ := p
      simp only at hp2
      subst hp2
      have := hE.hp l p2 (by have := (List.getElem?_eq_some_iff.1 hl1).1; omega) hp
      rw [hh] at this
      simp only [Option.some.injEq, Prod.mk.injEq] at this
      exact ⟨false, by rw [hp, this.2]⟩
    · have hmm' := isMark_eq hp3
      rw [hp2, hp3] at hh
      have := hE.hm l (by rw [hh, hmm']; rfl)
      exact ⟨true, by rw [this, hmm']⟩
  obtain ⟨β2, g1, g2⟩ := h.reenc hf hdec hok (by rw [hE.tl, htl]) hmarks (fun i hi => by rw [hE.tm i hi, htm i hi]) (Nat.le_trans hlen hE.hl) hun' hd
  exact ⟨β2, g1, g2 β (δ1 ++ δ2) (by simp) hs⟩

theorem head_facts' {s : AS} {D ks : List Nat} {la : LA} (hsl : ∀ i ∈ slotsOf la, i ∈ D) (x : KT (LA.kinds la)) :
    s.heap.length ≤ (enc true s D ks la x).heap.length ∧ (enc true s D ks la x).tmps.length = s.tmps.length ∧ (∀ i, i ∉ D → (enc true s D ks la x).tmps[i]? = s.tmps[i]?) ∧
    ∀ (l : Nat) (o : Bool × AObj), s.heap[l]? = some o → l ∉ ks → l ∉ boxesOf la ++ vecsOf la → (enc true s D ks la x).heap[l]? = some ((o.1 && o.2.isMark), o.2) := by
  refine ⟨?_, ?_, fun i hi => ?_, fun l o hl hk hb => ?_⟩
  · show _ ≤ (encL true la _ _).2.length
    refine Nat.le_trans ?_ (encL_le _ _ _)
    show _ ≤ (baseHeapFrom true ks (boxesOf la ++ vecsOf la) s.heap 0).length
    rw [base_len]; exact Nat.le_refl _
  · show (encL true la _ _).1.length = _
    rw [encL_tl]; exact junkAll_len _ _
  · show (encL true la _ _).1[i]? = _
    rw [encL_tm la _ _ (fun hh => hi (hsl i hh))]
    exact junkAll_tm D _ hi
  · show (encL true la _ _).2[l]? = _
    rw [encL_keep la _ _ (by show l < (baseHeapFrom true ks (boxesOf la ++ vecsOf la) s.heap 0).length; rw [base_len]; exact (List.getElem?_eq_some_iff.1 hl).1) hb]
    show (baseHeapFrom true ks (boxesOf la ++ vecsOf la) s.heap 0)[l]? = _
    rw [base_get, hl]
    simp only [Option.map_some, Nat.zero_add, baseObj]
    rw [if_neg (by simpa using hk), if_neg (by simpa using hb)]
    rfl

theorem head_facts {s : AS} {D ks : List Nat} {la : LA} {ls : List (Option Nat)} {h : Heap} (ok : okL s.heap h D ks la ls = true) (x : KT (LA.kinds la)) :
    s.heap.length ≤ (enc true s D ks la x).heap.length ∧ (enc true s D ks la x).tmps.length = s.tmps.length ∧ (∀ i, i ∉ D → (enc true s D ks la x).tmps[i]? = s.tmps[i]?) ∧
    ∀ (l : Nat) (o : Bool × AObj), s.heap[l]? = some o → l ∉ ks → l ∉ boxesOf la ++ vecsOf la → (enc true s D ks la x).heap[l]? = some ((o.1 && o.2.isMark), o.2) :=
  head_facts' (okL_ok ok).sl x

theorem Env.Sound.plain (hΓ : Γ.Sound P) : Γ.plain.Sound P := ⟨hΓ.cs, hΓ.hd, fun f d h => by simp [Env.plain] at h, hΓ.mnz⟩

def RdOK (F : Fence) (β : List Bl) : Option Nat → Prop
  | none => F.round = none
  | some L => ∃ rr rc, β[L]? = some rr ∧ rr.rc = some rc ∧ F.round = some rr.blk

theorem RdOK.mono {β β' : List Bl} {rd : Option Nat} (h : RdOK F β rd) (hb : ∃ δ, β' = β ++ δ) : RdOK F β' rd := by
  obtain ⟨δ, rfl⟩ := hb
  cases rd with
  | none => exact h
  | some L => obtain ⟨rr, rc, h1, h2, h3⟩ := h; exact ⟨rr, rc, get_app h1, h2, h3⟩

theorem rangeIn_sound {s s1 : AS} {β : List Bl} {a : Act} {w : World} {rd : Option Nat} (hrd : RdOK F β rd) (h : Rel C s β a w) (e : rangeIn s rd = some s1) (fn : FuncId) (ps : Array Tmp) (assign body : Code) :
    ∃ (l : Nat) (mark : List Deferred) (w1 : World) (rr : Bl) (δ : List Bl) (dl : Nat), (Instr.enterLoop fn a.tmps ps assign body F.round).run P w = .ok (l, mark) w1 ∧ Rel C s1 (β ++ δ) { a with defers := mark ++ a.defers } w1 ∧
      (β ++ δ)[s1.heap.length - 1]? = some rr ∧ rr.blk = l ∧ rr.rc = some { state := .ready, pending := none, fn, tmps := a.tmps, params := ps, assign, body, defers := dl } ∧ s1.heap[s1.heap.length - 1]? = some (true, .lp .ready) ∧ s1.tmps = s.tmps ∧
      Ext (fun _ => False) s s1 β (β ++ δ) := by
  have pushLp : ∀ (s0 : AS) (β0 : List Bl) (a0 : Act) (w0 : World) (dl : Nat), Rel C s0 β0 a0 w0 →
      Rel C { s0 with heap := s0.heap ++ [(true, .lp .ready)] } (β0 ++ [⟨w0.heap.size, 0, 0, 0, 0, true, some { state := .ready, pending := none, fn, tmps := a.tmps, params := ps, assign, body, defers := dl }, []⟩]) a0
        (w0.alloc (.loop { state := .ready, pending := none, fn, tmps := a.tmps, params := ps, assign, body, defers := dl })) := fun s0 β0 a0 w0 dl h0 =>
    (h0.push (Grew.alloc w0 _) (.lp .ready) ⟨w0.heap.size, 0, 0, 0, 0, true, some { state := .ready, pending := none, fn, tmps := a.tmps, params := ps, assign, body, defers := dl }, []⟩
      (fun b hb => by simp only [AObj.occ, List.mem_singleton] at hb; subst hb; simp)
      (fun _ _ _ => ⟨_, rfl, World.alloc_heap_new _ _⟩)).1
  cases rd with
  | none =>
    simp only [rangeIn, Option.some.injEq] at e
    subst e
    have hr : F.round = none := hrd
    have h1 := (h.push (Grew.alloc w (.deferred (some []))) .mark ⟨w.heap.size, 0, 0, 0, 0, true, none, []⟩ (fun b hb => by simp only [AObj.occ, List.mem_singleton] at hb; subst hb; simp) (fun _ _ _ => World.alloc_heap_new _ _)).1
    have h2 : Rel C { s with heap := s.heap ++ [(true, .mark)], marks := s.heap.length :: s.marks } (β ++ [⟨w.heap.size, 0, 0, 0, 0, true, none, []⟩]) { a with defers := { target := .collected w.heap.size, args := #[] } :: a.defers } (w.alloc (.deferred (some []))) := by
      refine { defers := ?_, tsize := h1.tsize, tm := h1.tm, bsize := h1.bsize, ob := h1.ob, occ := h1.occ, apart := h1.apart, keep := h1.keep, frs := h1.frs }
      obtain ⟨bs, e1, e2⟩ := h1.defers
      exact ⟨w.heap.size :: bs, by simp only [List.map_cons]; rw [← e1], ⟨⟨w.heap.size, 0, 0, 0, 0, true, none, []⟩, by rw [← h.bsize]; simp, rfl, by simp⟩, e2⟩
    have h3 := pushLp _ _ _ _ w.heap.size h2
    refine ⟨w.heap.size + 1, [{ target := .collected w.heap.size, args := #[] }], (w.alloc (.deferred (some []))).alloc (.loop { state := .ready, pending := none, fn, tmps := a.tmps, params := ps, assign, body, defers := w.heap.size }), ⟨w.heap.size + 1, 0, 0, 0, 0, true, some { state := .ready, pending := none, fn, tmps := a.tmps, params := ps, assign, body, defers := w.heap.size }, []⟩,
      [⟨w.heap.size, 0, 0, 0, 0, true, none, []⟩, ⟨w.heap.size + 1, 0, 0, 0, 0, true, some { state := .ready, pending := none, fn, tmps := a.tmps, params := ps, assign, body, defers := w.heap.size }, []⟩], w.heap.size, ?_, ?_, ?_, rfl, rfl, ?_, rfl, ?_⟩
    · rw [hr]; exact run_enterLoop_outer _ _ _ _ _
    · simpa using h3
    · simp only [List.length_append, List.length_singleton, List.length_cons, List.length_nil, Nat.add_sub_cancel]
      rw [← h.bsize, List.getElem?_append_right (by omega)]
      simp
    · simp
    · refine ⟨⟨_, rfl⟩, fun _ _ => rfl, rfl, by simp, fun l o hl ho => ?_, ⟨[s.heap.length], rfl⟩, fun l hl => get_app (get_app hl)⟩
      have ho : (s.heap ++ [(true, AObj.mark)] ++ [(true, AObj.lp .ready)])[l]? = some (false, o) := ho
      rwa [List.append_assoc, List.getElem?_append_left hl] at ho
  | some L =>
    simp only [rangeIn] at e
    split at e
    rotate_left
    · simp at e
    rename_i st hL
    simp only [Option.some.injEq] at e
    subst e
    obtain ⟨r0, rc0, g1, g2, g3⟩ := hrd
    obtain ⟨f0, r1, k1, k2, rc1, k3, k4⟩ := h.obj hL (by simp)
    rw [g1] at k2; cases k2
    have h3 := pushLp _ _ _ _ rc1.defers h
    refine ⟨w.heap.size, [], w.alloc (.loop { state := .ready, pending := none, fn, tmps := a.tmps, params := ps, assign, body, defers := rc1.defers }), ⟨w.heap.size, 0, 0, 0, 0, true, some { state := .ready, pending := none, fn, tmps := a.tmps, params := ps, assign, body, defers := rc1.defers }, []⟩,
      [⟨w.heap.size, 0, 0, 0, 0, true, some { state := .ready, pending := none, fn, tmps := a.tmps, params := ps, assign, body, defers := rc1.defers }, []⟩], rc1.defers, ?_, ?_, ?_, rfl, rfl, ?_, rfl, ?_⟩
    · rw [g3]; exact run_enterLoop_inner k4 _ _ _ _ _
    · simpa using h3
    · simp only [List.length_append, List.length_singleton, Nat.add_sub_cancel]
      rw [← h.bsize]; simp
    · simp
    · refine ⟨⟨_, rfl⟩, fun _ _ => rfl, rfl, by simp, fun l o hl ho => ?_, ⟨[], rfl⟩, fun l hl => get_app hl⟩
      have ho : (s.heap ++ [(true, AObj.lp .ready)])[l]? = some (false, o) := ho
      rwa [List.getElem?_append_left hl] at ho

theorem round_grown {d d' : Nat → Prop} {s0 s2 s2' s3 : AS} {β0 β2 β3 : List Bl} {L : Nat} {f g : Bool} {st0 st1 st2 : LS} (E1 : Ext d s0 s2 β0 β2) (E2 : Ext d' s2' s3 β2 β3) (h2 : s2'.heap = s2.heap.set L (true, .lp st1)) (hL : s0.heap[L]? = some (f, .lp st0))
    (hg : g = true ∨ (g = f ∧ st2 = st0)) : Grown s0.heap (s3.heap.set L (g, .lp st2)) β0 β3 := by
  obtain ⟨δ1, rfl⟩ := E1.bx
  obtain ⟨δ2, rfl⟩ := E2.bx
  have l2 := E2.hl
  rw [h2, List.length_set] at l2
  have hLl := (List.getElem?_eq_some_iff.1 hL).1
  have hl1 := E1.hl
  refine ⟨⟨δ1 ++ δ2, by simp⟩, by simp; omega, fun l o hl ho => ?_, fun l hl => ?_⟩
  · by_cases e : L = l
    · subst e
      rw [List.getElem?_set_self (by omega)] at ho
      simp only [Option.some.injEq, Prod.mk.injEq] at ho
      rcases hg with hg | ⟨hg, hst⟩
      · rw [hg] at ho; simp at ho
      · rw [hL, ← hg, ← hst, ho.1, ho.2]
    · rw [List.getElem?_set_ne e] at ho
      have := E2.hp l o (by rw [h2, List.length_set]; omega) ho
      rw [h2, List.getElem?_set_ne e] at this
      exact E1.hp l o hl this
  · have e : L ≠ l := fun e => by subst e; rw [hL] at hl; simp at hl
    have := E1.hm l hl
    have := E2.hm l (by rw [h2, List.getElem?_set_ne e]; exact this)
    rw [List.getElem?_set_ne e]; exact this

theorem roundEnd_sound {C' : Cx} {s' s2 s2' s3 : AS} {β' β2 β3 : List Bl} {a' a3 : Act} {w3 : World} {R : Type} {k : Heap → TV → Option R} {r : R} {L : Nat} {f g : Bool} {st : LS} {rr : Bl} {rc : Loop} {d d' : Nat → Prop} {s0 : AS}
    (hs0 : s0.heap = s'.heap) (E1 : Ext d s0 s2 β' β2) (E2 : Ext d' s2' s3 β2 β3) (h2 : s2'.heap = s2.heap.set L (true, .lp .busy)) (hL : s'.heap[L]? = some (f, .lp .ready)) (hg : g = true ∨ (g = f ∧ st = .ready))
    (hst : st ≠ .busy) (hr : β'[L]? = some rr) (hrc : rr.rc = some rc) (h3 : Rel (C'.push s' a') s3 β3 a3 w3) (e : roundEnd L g st k s3 = some r) :
    ∃ v w', (Instr.endRound rr.blk st.pe).run P w3 = .ok v w' ∧ CallPost C' s' β' a' k r (.returned v) w' := by
  unfold roundEnd at e
  split at e
  rotate_left
  · simp at e
  rename_i hb
  obtain ⟨f3, hf3⟩ := hat_eq hb (by simp)
  have hr3 : β3[L]? = some rr := by
    obtain ⟨δ1, rfl⟩ := E1.bx
    obtain ⟨δ2, rfl⟩ := E2.bx
    exact get_app (get_app hr)
  obtain ⟨rc', q1, q2⟩ := h3.lp_at hf3 hr3
  rw [hrc] at q1; cases q1
  have hrun := run_endRound (P := P) st.pe q2
  have h4 := h3.lp_turn hf3 hr3 hrc st g
  have hw : (Loop.mk (if st.pe.isNone = true then LoopState.ready else LoopState.done) st.pe rc.fn rc.tmps rc.params rc.assign rc.body rc.defers) = { rc with state := st.st, pending := st.pe } := by
    cases st with
    | ready => rfl
    | busy => exact absurd rfl hst
    | ret => rfl
    | exit i => rfl
  have hv : Value.bool st.pe.isNone = .bool (st == .ready) := by
    cases st with
    | ready => rfl
    | busy => exact absurd rfl hst
    | ret => rfl
    | exit i => rfl
  refine ⟨_, _, hrun, _, _, _, β3, rfl, e, ?_, ?_, ?_⟩
  · have := h4.back
    rw [show ({ ({ rc with state := LS.busy.st, pending := LS.busy.pe } : Loop) with state := if st.pe.isNone = true then LoopState.ready else LoopState.done, pending := st.pe } : Loop) = { rc with state := st.st, pending := st.pe } from hw]
    exact this
  · rw [hv]; simp [TV.R, AV.R, K.rd]
  · rw [← hs0]; rw [← hs0] at hL; exact round_grown E1 E2 h2 hL hg

theorem encI_set {hd : Bool} {it : Item} {x : it.kind.den} {t : List TV} {h : Heap} {i : Nat} {o : Bool × AObj} (hi : i < h.length) (hn : i ∉ boxesOf [it] ++ vecsOf [it]) :
    encI hd it x (t, h.set i o) = ((encI hd it x (t, h)).1, (encI hd it x (t, h)).2.set i o) := by
  cases it with
  | slot j sk =>
    simp only [encI, List.length_set]
    rw [List.set_append_left _ _ hi]
  | cell l j sk =>
    have hne : i ≠ l := fun e => hn (by simp [boxesOf, e])
    have hh : hat (h.set i o) l = hat h l := by unfold hat; rw [List.getElem?_set_ne hne]
    simp only [encI, hh]
    split
    · simp only [List.length_set]
      rw [List.set_append_left _ _ (by simpa using hi), List.set_comm _ _ hne]
    · rfl
  | vec l T k fr =>
    have hne : i ≠ l := fun e => hn (by simp [vecsOf, e])
    simp only [encI]; rw [List.set_comm _ _ hne]
  | map l k v fr =>
    have hne : i ≠ l := fun e => hn (by simp [vecsOf, e])
    simp only [encI]; rw [List.set_comm _ _ hne]
  | lp l st =>
    have hne : i ≠ l := fun e => hn (by simp [vecsOf, e])
    simp only [encI]; rw [List.set_comm _ _ hne]
  | dvec l T T' kh ki =>
    have hne : i ≠ l := fun e => hn (by simp [vecsOf, e])
    simp only [encI]; rw [List.set_comm _ _ hne]
  | pbox j T n =>
    simp only [encI, List.length_set]
    rw [List.set_append_left _ _ hi]
  | pcell j c l sk =>
    have hne : i ≠ l := fun e => hn (by simp [vecsOf, e])
    have hh : hat (h.set i o) l = hat h l := by unfold hat; rw [List.getElem?_set_ne hne]
    simp only [encI, hh]
    split
    · split
      · simp only [List.length_set]
        rw [List.set_append_left _ _ (by simpa using hi), List.set_comm _ _ hne]
      · rw [List.set_append_left _ _ hi]
    · rw [List.set_append_left _ _ hi]

theorem encL_set {hd : Bool} {i : Nat} {o : Bool × AObj} : ∀ (la : List Item) (x : KU (LA.kinds la)) (t : List TV) (h : Heap), i < h.length → i ∉ boxesOf la ++ vecsOf la →
    encL hd la x (t, h.set i o) = ((encL hd la x (t, h)).1, (encL hd la x (t, h)).2.set i o)
  | [], _, _, _, _, _ => rfl
  | it :: r, x, t, h, hi, hn => by
    obtain ⟨n1, n2⟩ := boxes_sub hn
    show encL hd r x.2 (encI hd it x.1 (t, h.set i o)) = _
    rw [encI_set hi n1]
    have := encL_set r x.2 (encI hd it x.1 (t, h)).1 (encI hd it x.1 (t, h)).2 (o := o) (hd := hd) (Nat.lt_of_lt_of_le hi (encI_le (th := (t, h)))) n2
    exact this

theorem base_set {hd : Bool} {ks bs : List Nat} {o : Bool × AObj} : ∀ (h : Heap) (n i : Nat), baseHeapFrom hd ks bs (h.set i o) n = (baseHeapFrom hd ks bs h n).set i (baseObj hd ks bs o (n + i))
  | [], _, _ => rfl
  | p :: h, n, 0 => rfl
  | p :: h, n, i + 1 => by
    simp only [List.set_cons_succ, baseHeapFrom]
    rw [base_set h (n + 1) i, show n + 1 + i = n + (i + 1) by omega]

theorem enc_upd {s : AS} {D ks : List Nat} {la : LA} {i : Nat} {o : AObj} (hd : Bool) (hi : i < s.heap.length) (hk : i ∉ ks) (hn : i ∉ boxesOf la ++ vecsOf la) (hm : o.isMark = false) (x : KT (LA.kinds la)) :
    enc hd (s.upd i o) D ks la x = { enc hd s D ks la x with heap := (enc hd s D ks la x).heap.set i (!hd, o) } := by
  have hb : baseObj hd ks (boxesOf la ++ vecsOf la) (true, o) (0 + i) = (!hd, o) := by
    unfold baseObj
    rw [if_neg (by simpa using hk), if_neg (by simpa using hn)]
    cases hd <;> simp [hm]
  have := encL_set (hd := hd) (i := i) (o := (!hd, o)) la (KT.up x) (junkAll D s.tmps) (baseHeapFrom hd ks (boxesOf la ++ vecsOf la) s.heap 0) (by rw [base_len]; exact hi) hn
  simp only [enc, AS.upd]
  rw [base_set, hb, this]

theorem enc_at {s : AS} {D ks : List Nat} {la : LA} {i : Nat} {p : Bool × AObj} (hd : Bool) (hp : s.heap[i]? = some p) (hk : i ∉ ks) (hn : i ∉ boxesOf la ++ vecsOf la) (hm : p.2.isMark = false) (x : KT (LA.kinds la)) :
    (enc hd s D ks la x).heap[i]? = some (if hd then false else p.1, p.2) := by
  have hi := (List.getElem?_eq_some_iff.1 hp).1
  show (encL hd la _ _).2[i]? = _
  rw [encL_keep la _ _ (by show i < (baseHeapFrom hd ks (boxesOf la ++ vecsOf la) s.heap 0).length; rw [base_len]; exact hi) hn]
  show (baseHeapFrom hd ks (boxesOf la ++ vecsOf la) s.heap 0)[i]? = _
  rw [base_get, hp]
  simp only [Option.map_some, Nat.zero_add, baseObj]
  rw [if_neg (by simpa using hk), if_neg (by simpa using hn)]
  cases hd <;> simp [hm]

theorem AS.Fine.upd {C : Cx} {s : AS} (hf : s.Fine C) {i : Nat} {o : AObj} (ho : o.lt s.heap.length) (hm : s.heap[i]? ≠ some (true, .mark)) : (s.upd i o).Fine C where
  tm j t e := by have := hf.tm j t e; simpa [AS.upd] using this
  ob j p e := by
    have e : (s.heap.set i (true, o))[j]? = some p := e
    have hl : (s.upd i o).heap.length = s.heap.length := by simp [AS.upd]
    rw [hl]
    by_cases hij : i = j
    · subst hij
      have hlt := (List.getElem?_eq_some_iff.1 e).1
      rw [List.getElem?_set_self (by simpa using hlt)] at e
      simp only [Option.some.injEq] at e; subst e
      exact ho
    · rw [List.getElem?_set_ne hij] at e
      exact hf.ob j p e
  mks j hj := by
    have := hf.mks j hj
    show (s.heap.set i (true, o))[j]? = _
    rw [List.getElem?_set_ne (fun e => by subst e; exact hm this)]
    exact this
  frm f hf' j t e := by have := hf.frm f hf' j t e; simpa [AS.upd] using this

structure WalkP (s : AS) (D : List Nat) (L : LoopAnn) (it l m : Nat) : Prop where
  ne : l ≠ m
  it : it ∉ D
  lk : l ∉ L.ks
  mks : m ∉ L.ks
  dead : ∃ f, s.heap[m]? = some (f, .dead)
  lh : l ∉ boxesOf L.head ++ vecsOf L.head
  mh : m ∉ boxesOf L.head ++ vecsOf L.head
  le : ∀ p ∈ L.exits, l ∉ boxesOf p.2 ++ vecsOf p.2 ∧ m ∉ boxesOf p.2 ++ vecsOf p.2

theorem walkOK_ok {s : AS} {D : List Nat} {L : LoopAnn} {it l m : Nat} (h : walkOK s D L it l m = true) : WalkP s D L it l m := by
  simp only [walkOK, Bool.and_eq_true, laFree, Bool.not_eq_true', List.contains_eq_mem, decide_eq_false_iff_not, bne_iff_ne, ne_eq, List.all_eq_true] at h
  obtain ⟨⟨⟨⟨⟨⟨⟨h1, h2⟩, h3⟩, h4⟩, h5⟩, h6⟩, h7⟩, h8⟩ := h
  refine ⟨h1, h2, h3, h4, ?_, h6, h7, h8⟩
  split at h5
  · rename_i f hm; exact ⟨f, hm⟩
  · simp at h5

theorem ES.elim_mk' {R : Type} {f : (key : Option Nat) → (la : LA) → KT (LA.kinds la) → R} {dec : (la : LA) → Option (KT (LA.kinds la))} {key : Option Nat} : ∀ {es : Exits} {e : ES es}, ES.mk es key dec = some e →
    ∃ la x, (∃ p ∈ es, p.2 = la) ∧ dec la = some x ∧ ES.elim es e f = f key la x
  | [], e, h => by simp [ES.mk] at h
  | [p], e, h => by
    unfold ES.mk at h
    split at h
    · rename_i hk; subst hk; exact ⟨p.2, e, ⟨p, by simp, rfl⟩, h, rfl⟩
    · simp at h
  | p :: q :: r, e, h => by
    unfold ES.mk at h
    split at h
    · rename_i hk; subst hk
      obtain ⟨x, hx, rfl⟩ := Option.map_eq_some_iff.1 h
      exact ⟨p.2, x, ⟨p, by simp, rfl⟩, hx, rfl⟩
    · obtain ⟨x, hx, rfl⟩ := Option.map_eq_some_iff.1 h
      obtain ⟨la, y, ⟨p', hp', hla⟩, h1, h2⟩ := ES.elim_mk' (f := f) hx
      exact ⟨la, y, ⟨p', List.mem_cons_of_mem _ hp', hla⟩, h1, h2⟩

def SoundC (P : Program) (Γ : Env) (an : Ann) (c : Code) : Prop := ∀ (R : Type) (rd : Option Nat) (b : Nat) (s : AS) (K : Kt R) (r : R), arun P Γ an c R rd b s K = some r →
    ∀ (F : Fence) (n : Nat) (C : Cx) (β : List Bl) (a : Act) (w : World), FW F → RdOK F β rd → YOK P C β Γ.yl → Γ.NF C → Rel C s β a w →
    c.wpIn F n P (Post C s β (· ∈ Code.dsts c) K r) a w

theorem walk_sound (hΓ : Γ.Sound P) {an : Ann} {id : Nat} {ops : Array Oper} {rest : Code} (ih : SoundC P Γ an rest) {L : LoopAnn} {s : AS} {o1 : Oper} {ol : List Oper} (hops : ops.toList = o1 :: ol) {it : Nat} (hop : o1.op = .next (.tmp it) false) (hg : o1.guard = none)
    {d : Nat} (hdst : o1.dst = some d) {l m : Nat} {k v : Bool × K} {es left : List (k.2.den × v.2.den)} {fr : Bool} (hit : s.tmps[it]? = some (.one (.wk l))) (hob : hat s.heap l = .walk m k v es left none fr)
    (hok : walkOK s (Code.dsts (.seq (.region id ops false) rest)) L it l m = true) {R : Type} {rd : Option Nat} {b : Nat} {K : Kt R} {r : R} {late : Bool}
    (e : walkLoop late P Γ (Code.dsts (.seq (.region id ops false) rest)) L s ops ol d l m k v es left fr (fun s1 K1 => arun P Γ an rest (KT (LA.kinds L.head) ⊕ ES L.exits) rd b s1 K1) K = some r)
    {β : List Bl} {a : Act} {w : World} (hF : FW F) (hrd : RdOK F β rd) (hY : YOK P C β Γ.yl) (hnf : Γ.NF C) (h : Rel C s β a w) :
    (Code.loop (.seq (.region id ops false) rest)).wpIn F n P (Post C s β (· ∈ Code.dsts (.seq (.region id ops false) rest)) K r) a w := by
  have W := walkOK_ok hok
  generalize hD : Code.dsts (.seq (.region id ops false) rest) = D at *
  have hdD : d ∈ D := by rw [← hD]; exact List.mem_append_left _ (List.mem_filterMap.2 ⟨o1, by rw [hops]; simp, hdst⟩)
  have hopsD : ∀ i, rdst ops i → i ∈ D := fun i ⟨o, ho, hi⟩ => by rw [← hD]; exact List.mem_append_left _ (List.mem_filterMap.2 ⟨o, by simpa using ho, hi⟩)
  have hrestD : ∀ i, i ∈ Code.dsts rest → i ∈ D := fun i hi => by rw [← hD]; exact List.mem_append_right _ hi
  obtain ⟨fm, hdead⟩ := W.dead
  obtain ⟨fl, hfl⟩ := hat_eq hob (by simp)
  have hll := (List.getElem?_eq_some_iff.1 hfl).1
  have hml := (List.getElem?_eq_some_iff.1 hdead).1
  unfold walkLoop at e
  split at e
  · simp at e
  rename_i x0 hx0
  have hgood := walkM_some e
  clear e
  generalize hTT : (fun (ee : ES L.exits) => (ES.elim L.exits ee fun key la x => match key with
      | some i => K.exit i (enc false (unwalk s l m k v es fr) D L.ks la x)
      | none => K.ret (enc false (unwalk s l m k v es fr) D L.ks la x)) = some r) = TT at hgood
  generalize hf : (fun (p : k.2.den × v.2.den) (lf : List (k.2.den × v.2.den)) (x : KT (LA.kinds L.head)) => aops P Γ ops ol ((enc true (s.upd l (.walk m k v es lf (some p) fr)) D L.ks L.head x).put (some d) (.tup [(false, [.dat .bool true true]), (k.1, k.2.cells fr p.1), (v.1, v.2.cells fr p.2)])) fun s1 => arun P Γ an rest (KT (LA.kinds L.head) ⊕ ES L.exits) rd b s1 {
        norm := fun s' => (decAt (s.upd l (.walk m k v es lf (some p) fr)) D L.ks (boxesOf L.head ++ vecsOf L.head) L.head s').map .inl
        exit := fun i s' => (ES.mk L.exits (some i) (fun la => decAt (s.upd l (.walk m k v es lf (some p) fr)) D L.ks (boxesOf L.head ++ vecsOf L.head) la s')).map .inr
        ret := fun s' => (ES.mk L.exits none (fun la => decAt (s.upd l (.walk m k v es lf (some p) fr)) D L.ks (boxesOf L.head ++ vecsOf L.head) la s')).map .inr }) = f at hgood
  generalize hfin : (fun (x : KT (LA.kinds L.head)) => aops P Γ ops ol ((enc true (unwalk s l m k v es fr) D L.ks L.head x).put (some d) (.tup [(false, [.dat .bool false true])])) fun s1 => arun P Γ an rest (KT (LA.kinds L.head) ⊕ ES L.exits) rd b s1 {
        norm := fun _ => none
        exit := fun i s' => (ES.mk L.exits (some i) (fun la => decAt (unwalk s l m k v es fr) D L.ks (boxesOf L.head ++ vecsOf L.head) la s')).map .inr
        ret := fun s' => (ES.mk L.exits none (fun la => decAt (unwalk s l m k v es fr) D L.ks (boxesOf L.head ++ vecsOf L.head) la s')).map .inr }) = fin at hgood
  unfold decIn at hx0
  split at hx0
  rotate_left
  · simp at hx0
  rename_i xu ls hdec
  split at hx0
  rotate_left
  · simp at hx0
  rename_i hokL
  simp only [Option.some.injEq] at hx0
  subst hx0
  have hsl := (okL_ok hokL).sl
  have hfine := h.fine
  obtain ⟨β1, hr1, hb1⟩ := h.reenc h.fine hdec hokL rfl rfl (fun _ _ => rfl) (Nat.le_refl _) (fun l o hl _ _ => ⟨o.1, hl⟩) true
  obtain ⟨δ1, hb1⟩ := hb1 β [] (by simp) h.bsize
  -- the state told over another base
  have encW : ∀ (hd : Bool) (la : LA) (x : KT (LA.kinds la)) (o : AObj), o.isMark = false → l ∉ boxesOf la ++ vecsOf la → enc hd (s.upd l o) D L.ks la x = { enc hd s D L.ks la x with heap := (enc hd s D L.ks la x).heap.set l (!hd, o) } :=
    fun hd la x o ho hn => enc_upd hd hll W.lk hn ho x
  have encF : ∀ (hd : Bool) (la : LA) (x : KT (LA.kinds la)), l ∉ boxesOf la ++ vecsOf la → m ∉ boxesOf la ++ vecsOf la →
      enc hd (unwalk s l m k v es fr) D L.ks la x = { enc hd s D L.ks la x with heap := ((enc hd s D L.ks la x).heap.set l (!hd, .dead)).set m (!hd, .map k v es fr) } := fun hd la x hn hn' => by
    unfold unwalk
    rw [enc_upd hd (by simpa [AS.upd] using hml) W.mks hn' rfl x, enc_upd hd hll W.lk hn rfl x]
  have encM : ∀ (hd : Bool) (la : LA) (x : KT (LA.kinds la)), m ∉ boxesOf la ++ vecsOf la → (enc hd s D L.ks la x).heap[m]? = some (if hd then false else fm, .dead) := fun hd la x hn' => enc_at hd hdead W.mks hn' rfl x
  have encl : ∀ (hd : Bool) (la : LA) (x : KT (LA.kinds la)), l < (enc hd s D L.ks la x).heap.length := fun hd la x => by
    refine Nat.lt_of_lt_of_le hll ?_
    refine Nat.le_trans ?_ (encL_le _ _ _)
    show _ ≤ (baseHeapFrom hd L.ks (boxesOf la ++ vecsOf la) s.heap 0).length
    rw [base_len]; exact Nat.le_refl _
  -- the base is over
  have toF : ∀ (hd : Bool) (la : LA) (x : KT (LA.kinds la)) (lf : List (k.2.den × v.2.den)) (cur : Option (k.2.den × v.2.den)) (β2 : List Bl) (a2 : Act) (w2 : World), l ∉ boxesOf la ++ vecsOf la → m ∉ boxesOf la ++ vecsOf la →
      Rel C (enc hd (s.upd l (.walk m k v es lf cur fr)) D L.ks la x) β2 a2 w2 → Rel C (enc hd (unwalk s l m k v es fr) D L.ks la x) β2 a2 w2 := fun hd la x lf cur β2 a2 w2 hn hn' h2 => by
    rw [encW hd la x _ rfl hn] at h2
    rw [encF hd la x hn hn']
    have h3 := h2.walk_end (l := l) (m := m) (k := k) (v := v) (es := es) (left := lf) (cur := cur) (fr := fr) (f := !hd) (fm := if hd then false else fm) (by simp [encl hd la x]) (by
      show ((enc hd s D L.ks la x).heap.set l _)[m]? = _
      rw [List.getElem?_set_ne W.ne]; exact encM hd la x hn') (!hd) (!hd)
    simpa using h3
  -- a piece of the round
  have piece : ∀ (sX : AS) (x : KT (LA.kinds L.head)) (tv : TV) (KK : Kt (KT (LA.kinds L.head) ⊕ ES L.exits)) (res : KT (LA.kinds L.head) ⊕ ES L.exits) (βh : List Bl) (a1 : Act) (w1 : World) (Q : Exit → Act → World → Prop),
      aops P Γ ops ol ((enc true sX D L.ks L.head x).put (some d) tv) (fun s1 => arun P Γ an rest (KT (LA.kinds L.head) ⊕ ES L.exits) rd b s1 KK) = some res → (∃ δ, βh = β ++ δ) → Rel C ((enc true sX D L.ks L.head x).put (some d) tv) βh a1 w1 →
      (∀ ex' s' β' a' w', KK.at ex' s' = some res → Rel C s' β' a' w' → Ext (· ∈ D) (enc true sX D L.ks L.head x) s' βh β' → Q ex' a' w') →
      wpOpsIn F n P ops (Exit.then (rest.wpIn F n P Q) Q) (List.range' 1 ol.length) a1 w1 := by
    intro sX x tv KK res βh a1 w1 Q he hbh hrel hQ
    refine aops_sound hF hΓ ol 1 (by rw [hops]; rfl) (hY.mono (CxLe.refl _) hbh) hrel he ?_
    rintro a' w' ⟨s1, β1, g1, g2, g3⟩
    have hb1 : ∃ δ, β1 = β ++ δ := by obtain ⟨δ, rfl⟩ := hbh; obtain ⟨δ', rfl⟩ := g3.bx; exact ⟨δ ++ δ', by simp⟩
    show rest.wpIn F n P Q a' w'
    refine wpIn_mono (ih _ rd b s1 KK res g1 F n C β1 a' w' hF (hrd.mono hb1) (hY.mono (CxLe.refl _) hb1) hnf g2) fun ex' a'' w'' ⟨s', β', k1, k2, k3⟩ => ?_
    exact hQ ex' s' β' a'' w'' k1 k2 (((Ext.put _ _ (some d) tv).mono fun i hi => by cases hi; exact hdD).trans ((g3.mono hopsD).trans (k3.mono hrestD)))
  -- the ways out
  have hnw : ∀ (lf : List (k.2.den × v.2.den)) (cur : Option (k.2.den × v.2.den)), (s.upd l (.walk m k v es lf cur fr)).Fine C := fun lf cur => hfine.upd hml (by rw [hfl]; simp)
  have hnF : (unwalk s l m k v es fr).Fine C := (hfine.upd (i := l) (o := .dead) trivial (by rw [hfl]; simp)).upd (o := .map k v es fr) trivial (by
    show (s.heap.set l _)[m]? ≠ _
    rw [List.getElem?_set_ne W.ne, hdead]; simp)
  have lenW : ∀ (lf : List (k.2.den × v.2.den)) (cur : Option (k.2.den × v.2.den)), (s.upd l (.walk m k v es lf cur fr)).heap.length = s.heap.length := fun _ _ => by simp [AS.upd]
  have lenF : (unwalk s l m k v es fr).heap.length = s.heap.length := by simp [unwalk, AS.upd]
  have extF : Ext (fun _ => False) s (unwalk s l m k v es fr) β β := by
    have e1 := Ext.upd (fun _ => False) s β l .dead (by rw [hfl]; simp)
    have e2 := Ext.upd (fun _ => False) (s.upd l .dead) β m (.map k v es fr) (by
      show (s.heap.set l _)[m]? ≠ _
      rw [List.getElem?_set_ne W.ne, hdead]; simp)
    exact e1.trans e2
  have leave : ∀ (key : Option Nat) (la : LA) (y : KT (LA.kinds la)) (β2 : List Bl) (a2 : Act) (w2 : World) (hla : ∃ p ∈ L.exits, p.2 = la) (sX : AS) (ls' : List (Option Nat)) (h' : Heap), (sX = unwalk s l m k v es fr ∨ ∃ lf cur, sX = s.upd l (.walk m k v es lf cur fr)) →
      Rel C (enc false sX D L.ks la y) β2 a2 w2 → okL sX.heap h' D L.ks la ls' = true → (∃ δ, β2 = β ++ δ) → (match key with | some i => K.exit i (enc false (unwalk s l m k v es fr) D L.ks la y) | none => K.ret (enc false (unwalk s l m k v es fr) D L.ks la y)) = some r →
      ∃ s2 β2, (match key with | some i => K.exit i s2 | none => K.ret s2) = some r ∧ Rel C s2 β2 a2 w2 ∧ Ext (· ∈ D) s s2 β β2 := by
    intro key la y β2 a2 w2 hla sX ls' h' hsX hrel hok' hb2 hK
    obtain ⟨p, hp, rfl⟩ := hla
    obtain ⟨n1, n2⟩ := W.le p hp
    have hE := enc_ext (s0 := sX) hok' y hb2
    refine ⟨_, β2, hK, ?_, ?_⟩
    · rcases hsX with rfl | ⟨lf, cur, rfl⟩
      · exact hrel
      · exact toF false _ y lf cur β2 a2 w2 n1 n2 hrel
    · rcases hsX with rfl | ⟨lf, cur, rfl⟩
      · exact (extF.mono fun i hi => hi.elim).trans hE
      · rw [encF false _ y n1 n2]
        rw [encW false _ y _ rfl n1] at hE
        refine ⟨hE.bx, hE.tm, hE.tl, ?_, fun i o hi ho => ?_, hE.mks, fun i hi => ?_⟩
        · have := hE.hl; simp [AS.upd] at this; simpa using this
        · have ho : ((((enc false s D L.ks p.2 y).heap.set l (true, AObj.dead)).set m (true, AObj.map k v es fr)))[i]? = some (false, o) := ho
          have him : m ≠ i := fun e => by
            subst e
            by_cases hq : m < ((enc false s D L.ks p.2 y).heap.set l (true, AObj.dead)).length
            · rw [List.getElem?_set_self hq] at ho; simp at ho
            · rw [List.getElem?_eq_none (by simpa using hq)] at ho; simp at ho
          rw [List.getElem?_set_ne him] at ho
          have hil : l ≠ i := fun e => by
            subst e
            rw [List.getElem?_set_self (encl false _ y)] at ho; simp at ho
          rw [List.getElem?_set_ne hil] at ho
          have := hE.hp i o (by rw [lenW]; exact hi) (by
            show ((enc false s D L.ks p.2 y).heap.set l _)[i]? = _
            rw [List.getElem?_set_ne hil]; exact ho)
          have this : (s.heap.set l _)[i]? = some (false, o) := this
          rwa [List.getElem?_set_ne hil] at this
        · have hil : l ≠ i := fun e => by subst e; rw [hfl] at hi; simp at hi
          have him : m ≠ i := fun e => by subst e; rw [hdead] at hi; simp at hi
          have := hE.hm i (by
            show (s.heap.set l _)[i]? = _
            rw [List.getElem?_set_ne hil]; exact hi)
          have this : ((enc false s D L.ks p.2 y).heap.set l _)[i]? = some (true, AObj.mark) := this
          rw [List.getElem?_set_ne hil] at this
          show ((((enc false s D L.ks p.2 y).heap.set l (true, AObj.dead)).set m (true, AObj.map k v es fr)))[i]? = _
          rw [List.getElem?_set_ne him, List.getElem?_set_ne hil]; exact this
  refine wpIn_loop_rounds (left.length + 1) ?_
  have hr0 : Rel C (enc true (s.upd l (.walk m k v es left none fr)) D L.ks L.head (KT.down xu)) β1 a w := by
    rw [encW true _ _ _ rfl W.lh]
    have := enc_at (D := D) (ks := L.ks) (la := L.head) true hfl W.lk W.lh rfl (KT.down xu)
    have hs : (enc true s D L.ks L.head (KT.down xu)).heap.set l (!true, .walk m k v es left none fr) = (enc true s D L.ks L.head (KT.down xu)).heap := by
      apply List.ext_getElem?
      intro i
      by_cases hi : l = i
      · subst hi; rw [List.getElem?_set_self (encl true _ _), this]; rfl
      · rw [List.getElem?_set_ne hi]
    rw [hs]; exact hr1
  -- where the walk stands, and its first operation
  have itAt : ∀ (L' : List (k.2.den × v.2.den)) (x : KT (LA.kinds L.head)) (cur : Option (k.2.den × v.2.den)) (βh : List Bl) (a : Act) (w : World), Rel C (enc true (s.upd l (.walk m k v es L' cur fr)) D L.ks L.head x) βh a w →
      ∃ rr, βh[l]? = some rr ∧ a.eval (.tmp it) = .pointer (some ⟨rr.blk, 0, none⟩) ∧ (enc true (s.upd l (.walk m k v es L' cur fr)) D L.ks L.head x).heap[l]? = some (false, .walk m k v es L' cur fr) := by
    intro L' x cur βh a w hx
    obtain ⟨f1, f2, f3, f4⟩ := head_facts' (s := s.upd l (.walk m k v es L' cur fr)) (ks := L.ks) hsl x
    have ht := hx.tm it (.one (.wk l)) (by rw [f3 it W.it]; exact hit)
    obtain ⟨rr, hr, hv⟩ := ht
    refine ⟨rr, hr, hv, ?_⟩
    rw [encW true _ _ _ rfl W.lh, List.getElem?_set_self (encl true _ _)]
    rfl
  have firstOp : ∀ (a : Act) (w : World) (pv u : Value) (w1 : World) (hv : a.eval (.tmp it) = pv) (hrun : (Instr.next pv false o1.type).run P w = .ok u w1) (Q : Exit → Act → World → Prop),
      wpOpsIn F n P ops Q (List.range' 1 ol.length) (a.put (some d) u) w1 → wpOpsIn F n P ops Q (List.range ops.size) a w := by
    intro a w pv u w1 hv hrun Q hnext
    have hsz : ops.size = ol.length + 1 := by rw [← Array.length_toList, hops]; rfl
    have h0 : ops[0]? = some o1 := by rw [← Array.getElem?_toList, hops]; rfl
    rw [hsz, List.range_eq_range', List.range'_succ]
    simp only [wpOpsIn, h0]
    have hw : Region.wanted o1 (yielded ops a.tmps) = true := by simp [Region.wanted, hg]
    rw [if_pos hw]
    refine wpIn_value hF (by simp [hop]) (v := u) (w' := w1) ?_ (by rw [hdst]; exact hnext)
    simp only [execOp, hop, hv, Sem.run_bind, hrun, Result.andThen_ok, Sem.run_pure]
  have rounds : ∀ (nn : Nat) (L' : List (k.2.den × v.2.den)) (x : KT (LA.kinds L.head)) (cur : Option (k.2.den × v.2.den)) (βh : List Bl) (a : Act) (w : World), L'.length = nn → goodP f fin TT nn L' x →
      Rel C (enc true (s.upd l (.walk m k v es L' cur fr)) D L.ks L.head x) βh a w → (∃ δ, βh = β ++ δ) → Code.roundsIn F n P (.seq (.region id ops false) rest) (Post C s β (· ∈ D) K r) (nn + 1) a w := by
    intro nn
    induction nn with
    | zero =>
      intro L' x cur βh a w hlen hg' hx hbh
      obtain ⟨rfl, ex, hfx, hTe⟩ := hg'
      rw [← hfin] at hfx
      obtain ⟨rr, hr, hv, hw⟩ := itAt [] x cur βh a w hx
      rw [roundsIn_succ]
      refine wpIn_seq (wpIn_region ?_)
      rcases hx.walk_next hw hr o1.type with ⟨_, hrun⟩ | ⟨j, p, w', kv, vv, hj, _⟩
      rotate_left
      · simp at hj
      refine firstOp a w _ _ w hv hrun _ ?_
      have hF2 := toF true L.head x [] cur βh a w W.lh W.mh hx
      refine piece (unwalk s l m k v es fr) x _ _ _ βh _ w _ hfx hbh (hF2.put (some d) _ _ ⟨[.bool false], rfl, rfl, trivial⟩) ?_
      intro ex' s' β' a' w' g1 g2 g3
      obtain ⟨f1, f2, f3, f4⟩ := head_facts' (s := unwalk s l m k v es fr) (ks := L.ks) hsl x
      have out : ∀ (key : Option Nat) (e' : ES L.exits), ES.mk L.exits key (fun la => decAt (unwalk s l m k v es fr) D L.ks (boxesOf L.head ++ vecsOf L.head) la s') = some e' → e' = ex →
          ∃ s2 β2, (match key with | some i => K.exit i s2 | none => K.ret s2) = some r ∧ Rel C s2 β2 a' w' ∧ Ext (· ∈ D) s s2 β β2 := by
        intro key e' hmk hee
        subst hee
        rw [← hTT] at hTe
        obtain ⟨la, y, hla, hd, hel⟩ := ES.elim_mk' (f := fun key la x => match key with
          | some i => K.exit i (enc false (unwalk s l m k v es fr) D L.ks la x)
          | none => K.ret (enc false (unwalk s l m k v es fr) D L.ks la x)) hmk
        obtain ⟨⟨β2, q1, q2⟩, ls', h', hok'⟩ := decAt_sound hnF (by rw [lenF]; exact h.bsize) hbh g2 g3 f1 f2 rfl f3 f4 hd false
        have e : _ = some r := hTe
        rw [hel] at e
        exact leave key la y β2 a' w' hla _ ls' h' (.inl rfl) q1 hok' q2 e
      cases ex' with
      | normal => simp [Kt.at] at g1
      | exit i =>
        simp only [Kt.at, Option.map_eq_some_iff] at g1
        obtain ⟨e2, hmk, hy⟩ := g1
        obtain ⟨s2, β2, k1, k2, k3⟩ := out (some i) e2 hmk (by simpa using hy)
        exact ⟨s2, β2, k1, k2, k3⟩
      | ret =>
        simp only [Kt.at, Option.map_eq_some_iff] at g1
        obtain ⟨e2, hmk, hy⟩ := g1
        obtain ⟨s2, β2, k1, k2, k3⟩ := out none e2 hmk (by simpa using hy)
        exact ⟨s2, β2, k1, k2, k3⟩
      | goto _ => simp [Kt.at] at g1
      | panic _ => simp [Kt.at] at g1
      | outgrown => simp [Kt.at] at g1
    | succ nn ihn =>
      intro L' x cur βh a w hlen hg' hx hbh
      obtain ⟨rr, hr, hv, hw⟩ := itAt L' x cur βh a w hx
      rw [roundsIn_succ]
      refine wpIn_seq (wpIn_region ?_)
      rcases hx.walk_next hw hr o1.type with ⟨h0, _⟩ | ⟨j, p, w', kv, vv, hj, hrun, hrel, htv⟩
      · subst h0; simp at hlen
      refine firstOp a w _ _ w' hv hrun _ ?_
      have hgj := hg' j p hj
      have hjl := (List.getElem?_eq_some_iff.1 hj).1
      have hlen' : (L'.eraseIdx j).length = nn := by rw [List.length_eraseIdx_of_lt hjl]; omega
      generalize hLe : L'.eraseIdx j = Le at *
      have hx' : Rel C (enc true (s.upd l (.walk m k v es Le (some p) fr)) D L.ks L.head x) βh a w' := by
        rw [encW true _ _ _ rfl W.lh] at hrel ⊢
        simp only [List.set_set] at hrel
        exact Rel.set_flag (s := enc true s D L.ks L.head x) (encl true _ _) (by simp) hrel
      have htv' : TV.R w' (C.N (enc true (s.upd l (.walk m k v es Le (some p) fr)) D L.ks L.head x).heap βh w') (C.fresh (enc true (s.upd l (.walk m k v es Le (some p) fr)) D L.ks L.head x).heap βh w') βh
          (.tup [(false, [.dat .bool true true]), (k.1, k.2.cells fr p.1), (v.1, v.2.cells fr p.2)]) (.tuple #[.bool true, kv, vv]) := by
        rw [encW true _ _ _ rfl W.lh] at htv ⊢
        simp only [List.set_set] at htv
        have same : ∀ b, Free ((enc true s D L.ks L.head x).heap.set l (true, .walk m k v es Le (some p) fr)) βh b → Free ((enc true s D L.ks L.head x).heap.set l (!true, .walk m k v es Le (some p) fr)) βh b := by
          intro b hfree i o r0 hi hr0 hb
          by_cases hil : l = i
          · subst hil
            rw [List.getElem?_set_self (encl true _ _)] at hi
            simp only [Option.some.injEq] at hi; subst hi
            exact hfree l (true, _) r0 (by rw [List.getElem?_set_self (encl true _ _)]) hr0 hb
          · rw [List.getElem?_set_ne hil] at hi
            exact hfree i o r0 (by rw [List.getElem?_set_ne hil]; exact hi) hr0 hb
        exact TV.R_mono (AV.R_mono (fun _ _ => rfl) (fun b hb => ⟨hb.1, hb.2.1, same b hb.2.2⟩) (fun b hb => Cx.fresh_N hb) (fun b hb => ⟨hb.1, hb.2.1, same b hb.2.2⟩) (fun _ _ h => h)) _ _ htv
      obtain ⟨f1, f2, f3, f4⟩ := head_facts' (s := s.upd l (.walk m k v es Le (some p) fr)) (ks := L.ks) hsl x
      have fine := hnw Le (some p)
      have out : ∀ (key : Option Nat) (e' : ES L.exits) (s' : AS) (β' : List Bl) (a' : Act) (w' : World), Rel C s' β' a' w' → Ext (· ∈ D) (enc true (s.upd l (.walk m k v es Le (some p) fr)) D L.ks L.head x) s' βh β' →
          ES.mk L.exits key (fun la => decAt (s.upd l (.walk m k v es Le (some p) fr)) D L.ks (boxesOf L.head ++ vecsOf L.head) la s') = some e' → TT e' →
          ∃ s2 β2, (match key with | some i => K.exit i s2 | none => K.ret s2) = some r ∧ Rel C s2 β2 a' w' ∧ Ext (· ∈ D) s s2 β β2 := by
        intro key e' s' β' a' w' g2 g3 hmk hee
        rw [← hTT] at hee
        have e : _ = some r := hee
        obtain ⟨la, y, hla, hd, hel⟩ := ES.elim_mk' (f := fun key la x => match key with
          | some i => K.exit i (enc false (unwalk s l m k v es fr) D L.ks la x)
          | none => K.ret (enc false (unwalk s l m k v es fr) D L.ks la x)) hmk
        obtain ⟨⟨β2, q1, q2⟩, ls', h', hok'⟩ := decAt_sound fine (by rw [lenW]; exact h.bsize) hbh g2 g3 f1 f2 rfl f3 f4 hd false
        rw [hel] at e
        exact leave key la y β2 a' w' hla _ ls' h' (.inr ⟨Le, some p, rfl⟩) q1 hok' q2 e
      split at hgj
      · rename_i y hfx
        rw [← hf] at hfx
        refine piece (s.upd l (.walk m k v es Le (some p) fr)) x _ _ _ βh _ w' _ hfx hbh (hx'.put (some d) _ _ htv') ?_
        intro ex' s' β' a' w'' g1 g2 g3
        cases ex' with
        | normal =>
          simp only [Kt.at, Option.map_eq_some_iff] at g1
          obtain ⟨y', hd, hy⟩ := g1
          cases hy
          obtain ⟨⟨β2, q1, q2⟩, _⟩ := decAt_sound fine (by rw [lenW]; exact h.bsize) hbh g2 g3 f1 f2 rfl f3 f4 hd true
          exact ihn Le _ (some p) β2 a' w'' hlen' hgj q1 q2
        | exit i => simp only [Kt.at, Option.map_eq_some_iff] at g1; obtain ⟨_, _, hy⟩ := g1; simp at hy
        | ret => simp only [Kt.at, Option.map_eq_some_iff] at g1; obtain ⟨_, _, hy⟩ := g1; simp at hy
        | goto _ => simp [Kt.at] at g1
        | panic _ => simp [Kt.at] at g1
        | outgrown => simp [Kt.at] at g1
      · rename_i e' hfx
        rw [← hf] at hfx
        refine piece (s.upd l (.walk m k v es Le (some p) fr)) x _ _ _ βh _ w' _ hfx hbh (hx'.put (some d) _ _ htv') ?_
        intro ex' s' β' a' w'' g1 g2 g3
        cases ex' with
        | normal => simp only [Kt.at, Option.map_eq_some_iff] at g1; obtain ⟨_, _, hy⟩ := g1; simp at hy
        | exit i =>
          simp only [Kt.at, Option.map_eq_some_iff] at g1
          obtain ⟨e2, hmk, hy⟩ := g1
          cases hy
          obtain ⟨s2, β2, k1, k2, k3⟩ := out (some i) _ s' β' a' w'' g2 g3 hmk hgj
          exact ⟨s2, β2, k1, k2, k3⟩
        | ret =>
          simp only [Kt.at, Option.map_eq_some_iff] at g1
          obtain ⟨e2, hmk, hy⟩ := g1
          cases hy
          obtain ⟨s2, β2, k1, k2, k3⟩ := out none _ s' β' a' w'' g2 g3 hmk hgj
          exact ⟨s2, β2, k1, k2, k3⟩
        | goto _ => simp [Kt.at] at g1
        | panic _ => simp [Kt.at] at g1
        | outgrown => simp [Kt.at] at g1
      · exact hgj.elim
  exact rounds left.length left _ none β1 a w rfl hgood hr0 ⟨δ1, hb1⟩

theorem arun_sound2 (hΓ : Γ.Sound P) (hm : P.follows .mixedOrders = true) {an : Ann} : ∀ (c : Code), SoundC P Γ an c ∧ ∀ x y, c = .seq x y → SoundC P Γ an y := by
  intro c
  induction c with
  | skip => exact ⟨fun R rd b s K r e F n C β a w hF hrd hY _ h => wpIn_skip ⟨s, β, e, h, Ext.refl _ _ _⟩, by intro x' y' hxy; simp at hxy⟩
  | region id ops draw =>
    refine ⟨?_, by intro x' y' hxy; simp at hxy⟩
    intro R rd b s K r e F n C β a w hF hrd hY hnf h
    have hd : ∀ i, rdst ops i → i ∈ Code.dsts (.region id ops draw) := fun i ⟨o, ho, hi⟩ => List.mem_filterMap.2 ⟨o, by simpa using ho, hi⟩
    have fin : ∀ a' w', After C s β (rdst ops) K.norm r a' w' → Post C s β (· ∈ Code.dsts (.region id ops draw)) K r .normal a' w' :=
      fun a' w' ⟨s', β', h1, h2, h3⟩ => ⟨s', β', h1, h2, h3.mono hd⟩
    cases draw with
    | true => exact drawT_sound hF hΓ hΓ.plain hm hY h e fin
    | false =>
      refine region_sound hF hΓ hY h e fun a' w' ⟨s', β', h1, h2, h3⟩ => ?_
      obtain ⟨h4, h5⟩ := hnf.shut id h2
      exact ⟨_, β', h1, h4, (h3.mono hd).trans (h5.mono fun i hi => hi.elim)⟩
  | seq x y ihx ihy =>
    refine ⟨?_, by intro x' y' hxy; simp at hxy; rw [← hxy.2]; exact ihy.1⟩
    intro R rd b s K r e F n C β a w hF hrd hY hnf h
    refine wpIn_seq ?_
    simp only [arun] at e
    split at e
    · refine wpIn_mono (ihx.1 R rd b s _ r e F n C β a w hF hrd hY hnf h) fun ex a' w' ⟨s', β', h1, h2, h3⟩ => ?_
      have h3' : Ext (· ∈ Code.dsts (.seq x y)) s s' β β' := h3.mono fun i hi => List.mem_append_left _ hi
      cases ex with
      | normal =>
        refine wpIn_mono (ihy.1 R rd b s' K r h1 F n C β' a' w' hF (hrd.mono h3.bx) (hY.mono (CxLe.refl _) h3.bx) hnf h2) fun ex2 a2 w2 ⟨s2, β2, g1, g2, g3⟩ => ?_
        exact ⟨s2, β2, g1, g2, h3'.trans (g3.mono fun i hi => List.mem_append_right _ hi)⟩
      | exit i => exact ⟨s', β', h1, h2, h3'⟩
      | ret => exact ⟨s', β', h1, h2, h3'⟩
      | goto _ => simp [Kt.at] at h1
      | panic _ => simp [Kt.at] at h1
      | outgrown => simp [Kt.at] at h1
    · rename_i la ks hcut
      split at e
      · simp at e
      rename_i v hv
      obtain ⟨β1, hr1, hb1⟩ := h.reenc (D := []) (ks := []) (la := []) (xu := ()) (ls := []) h.fine rfl rfl rfl rfl (fun _ _ => rfl) (Nat.le_refl _) (fun l o hl _ _ => ⟨o.1, hl⟩) true
      obtain ⟨δ1, hb1⟩ := hb1 β [] (by simp) h.bsize
      obtain ⟨f1, f2, f3, f4⟩ := head_facts (s := s) (D := []) (ks := []) (la := []) (ls := []) (h := s.heap) rfl ()
      refine wpIn_mono (ihx.1 _ rd b s.calm _ v hv F n C β1 a w hF (hrd.mono ⟨δ1, hb1⟩) (hY.mono (CxLe.refl _) ⟨δ1, hb1⟩) hnf hr1) fun ex a' w' ⟨s', β', g1, g2, g3⟩ => ?_
      cases ex with
      | normal =>
        have g1 : decAt s (Code.dsts x) ks [] la s' = some v := g1
        obtain ⟨⟨β2, q1, q2⟩, ls', h', hok'⟩ := decAt_sound (S := s.calm) h.fine h.bsize ⟨δ1, hb1⟩ g2 g3 f1 f2 rfl (fun i _ => f3 i (by simp)) (fun l o hl _ _ => f4 l o hl (by simp) (by simp [boxesOf, vecsOf])) g1 false
        refine wpIn_mono (ihy.1 R rd b _ K r e F n C β2 a' w' hF (hrd.mono q2) (hY.mono (CxLe.refl _) q2) hnf q1) fun ex2 a2 w2 ⟨s2, β3, k1, k2, k3⟩ => ?_
        exact ⟨s2, β3, k1, k2, ((enc_ext hok' v q2).mono fun i hi => List.mem_append_left _ hi).trans (k3.mono fun i hi => List.mem_append_right _ hi)⟩
      | exit i => simp [Kt.at] at g1
      | ret => simp [Kt.at] at g1
      | goto _ => simp [Kt.at] at g1
      | panic _ => simp [Kt.at] at g1
      | outgrown => simp [Kt.at] at g1
  | cond c x y ihx ihy =>
    refine ⟨?_, by intro x' y' hxy; simp at hxy⟩
    intro R rd b s K r e F n C β a w hF hrd hY hnf h
    simp only [arun] at e
    split at e
    rotate_left
    · simp at e
    rename_i t hc
    have hv : a.eval c = .bool t := by simpa [TV.R, AV.R, Go.Proofs.AM.K.rd] using (hc ▸ h.ev c : TV.R _ _ _ _ (.one (.dat .bool t true)) (a.eval c))
    refine wpIn_cond hv ?_
    cases t with
    | true =>
      rw [know_same hc] at e
      exact wpIn_mono (ihx.1 R rd b s K r e F n C β a w hF hrd hY hnf h) fun ex a' w' ⟨s', β', g1, g2, g3⟩ => ⟨s', β', g1, g2, g3.mono fun i hi => List.mem_append_left _ hi⟩
    | false =>
      rw [know_same hc] at e
      exact wpIn_mono (ihy.1 R rd b s K r e F n C β a w hF hrd hY hnf h) fun ex a' w' ⟨s', β', g1, g2, g3⟩ => ⟨s', β', g1, g2, g3.mono fun i hi => List.mem_append_right _ hi⟩
  | block id c ih =>
    refine ⟨?_, by intro x' y' hxy; simp at hxy⟩
    intro R rd b s K r e F n C β a w hF hrd hY hnf h
    refine wpIn_block ?_
    refine wpIn_mono (ih.1 R rd id s _ r e F n C β a w hF hrd hY hnf h) fun ex a' w' ⟨s', β', h1, h2, h3⟩ => ?_
    cases ex with
    | normal => exact ⟨s', β', h1, h2, h3⟩
    | exit i =>
      simp only [Kt.at] at h1
      show if i = id then _ else _
      split at h1
      · rename_i hi; rw [if_pos hi]; exact ⟨s', β', h1, h2, h3⟩
      · rename_i hi; rw [if_neg hi]; exact ⟨s', β', h1, h2, h3⟩
    | ret => exact ⟨s', β', h1, h2, h3⟩
    | goto _ => simp [Kt.at] at h1
    | panic _ => simp [Kt.at] at h1
    | outgrown => simp [Kt.at] at h1
  | scope c ih =>
    refine ⟨?_, by intro x' y' hxy; simp at hxy⟩
    intro R rd b s K r e F n C β a w hF hrd hY hnf h
    refine wpIn_scope ?_
    have e : arun P Γ an c R rd b s K = some r := e
    refine wpIn_mono (ih.1 R rd b s K r e F n C β a w hF hrd hY hnf h) fun ex a' w' ⟨s', β', h1, h2, h3⟩ => ?_
    cases ex with
    | goto _ => simp [Kt.at] at h1
    | normal => exact ⟨s', β', h1, h2, h3⟩
    | exit i => exact ⟨s', β', h1, h2, h3⟩
    | ret => exact ⟨s', β', h1, h2, h3⟩
    | panic _ => simp [Kt.at] at h1
    | outgrown => simp [Kt.at] at h1
  | label l => exact ⟨fun R rd b s K r e F n C β a w hF hrd hY _ h => wpIn_label ⟨s, β, e, h, Ext.refl _ _ _⟩, by intro x' y' hxy; simp at hxy⟩
  | exit i => exact ⟨fun R rd b s K r e F n C β a w hF hrd hY _ h => wpIn_exit ⟨s, β, e, h, Ext.refl _ _ _⟩, by intro x' y' hxy; simp at hxy⟩
  | ret => exact ⟨fun R rd b s K r e F n C β a w hF hrd hY _ h => wpIn_ret ⟨s, β, e, h, Ext.refl _ _ _⟩, by intro x' y' hxy; simp at hxy⟩
  | loop c ih =>
    refine ⟨?_, by intro x' y' hxy; simp at hxy⟩
    intro R rd b s K r e F n C β a w hF hrd hY hnf h
    simp only [arun] at e
    split at e
    · simp at e
    rename_i L hL
    split at e
    rotate_left
    · -- a loop over a map
      rename_i it hwalk
      split at e
      · generalize it - 100000 = m0 at e
        refine wpIn_loop_rounds m0 ?_
        have key : ∀ (m : Nat) (s1 : AS) (β1 : List Bl) (a1 : Act) (w1 : World), unroll (fun s1 K1 => arun P Γ an c R rd b s1 K1) K m s1 = some r → Rel C s1 β1 a1 w1 → Ext (· ∈ Code.dsts (.loop c)) s s1 β β1 →
            Code.roundsIn F n P c (Post C s β (· ∈ Code.dsts (.loop c)) K r) m a1 w1 := by
          intro m
          induction m with
          | zero => intro s1 β1 a1 w1 e1; simp [unroll] at e1
          | succ m ihm =>
            intro s1 β1 a1 w1 e1 h1 hE
            refine wpIn_mono (ih.1 R rd b s1 _ r e1 F n C β1 a1 w1 hF (hrd.mono hE.bx) (hY.mono (CxLe.refl _) hE.bx) hnf h1) fun ex a' w' ⟨s', β', g1, g2, g3⟩ => ?_
            cases ex with
            | normal => exact ihm s' β' a' w' g1 g2 (hE.trans g3)
            | exit i => exact ⟨s', β', g1, g2, hE.trans g3⟩
            | ret => exact ⟨s', β', g1, g2, hE.trans g3⟩
            | goto _ => simp [Kt.at] at g1
            | panic _ => simp [Kt.at] at g1
            | outgrown => simp [Kt.at] at g1
        exact key m0 s β a w e h (Ext.refl _ _ _)
      generalize wkSlot it = it1 at e
      generalize decide (50000 ≤ it) = late at e
      split at e
      rotate_left
      · simp at e
      rename_i id ops rest
      split at e
      rotate_left
      · simp at e
      rename_i l hit
      split at e
      rotate_left
      · simp at e
      rename_i m k v es left fr hob
      split at e
      rotate_left
      · simp at e
      rename_i hok
      split at e
      rotate_left
      · simp at e
      rename_i o1 ol hops
      split at e
      rotate_left
      · simp at e
      rename_i it' d hop hg hdst
      split at e
      rotate_left
      · simp at e
      rename_i hit'
      subst hit'
      exact walk_sound hΓ (ih.2 _ _ rfl) hops hop hg hdst hit hob hok e hF hrd hY hnf h
    split at e
    · simp at e
    rename_i x0 hx0
    split at e
    · simp at e
    rename_i ex hex
    generalize hf : (fun x => arun P Γ an c (KT (LA.kinds L.head) ⊕ ES L.exits) rd b (enc true s (Code.dsts c) L.ks L.head x) {
            norm := fun s' => (decAt s (Code.dsts c) L.ks (boxesOf L.head ++ vecsOf L.head) L.head s').map .inl
            exit := fun i s' => (ES.mk L.exits (some i) (fun la => decAt s (Code.dsts c) L.ks (boxesOf L.head ++ vecsOf L.head) la s')).map .inr
            ret := fun s' => (ES.mk L.exits none (fun la => decAt s (Code.dsts c) L.ks (boxesOf L.head ++ vecsOf L.head) la s')).map .inr }) = f at hex
    obtain ⟨m, hit⟩ := loopM_some hex
    refine wpIn_loop_rounds m ?_
    unfold decIn at hx0
    split at hx0
    rotate_left
    · simp at hx0
    rename_i xu ls hdec
    split at hx0
    rotate_left
    · simp at hx0
    rename_i hok
    simp only [Option.some.injEq] at hx0
    subst hx0
    obtain ⟨β1, hr1, hb1⟩ := h.reenc h.fine hdec hok rfl rfl (fun _ _ => rfl) (Nat.le_refl _) (fun l o hl _ _ => ⟨o.1, hl⟩) true
    obtain ⟨δ1, hb1⟩ := hb1 β [] (by simp) h.bsize
    have rounds : ∀ (m : Nat) (x : KT (LA.kinds L.head)) (βh : List Bl) (a : Act) (w : World), iterM f m x = some ex → Rel C (enc true s (Code.dsts c) L.ks L.head x) βh a w → (∃ δ, βh = β ++ δ) →
        Code.roundsIn F n P c (Post C s β (· ∈ Code.dsts (.loop c)) K r) m a w := by
      intro m
      induction m with
      | zero => intro x βh a w hi; simp [iterM] at hi
      | succ m ihm =>
        intro x βh a w hi hx hbh
        unfold iterM at hi
        obtain ⟨f1, f2, f3, f4⟩ := head_facts hok x
        have out : ∀ (key : Option Nat) (s' : AS) (β' : List Bl) (a' : Act) (w' : World) (e' : ES L.exits), Rel C s' β' a' w' → Ext (· ∈ Code.dsts c) (enc true s (Code.dsts c) L.ks L.head x) s' βh β' →
            ES.mk L.exits key (fun la => decAt s (Code.dsts c) L.ks (boxesOf L.head ++ vecsOf L.head) la s') = some e' → e' = ex →
            ∃ s2 β2, (match key with | some i => K.exit i s2 | none => K.ret s2) = some r ∧ Rel C s2 β2 a' w' ∧ Ext (· ∈ Code.dsts (.loop c)) s s2 β β2 := by
          intro key s' β' a' w' e' g1 g2 hmk hee
          subst hee
          obtain ⟨la, y, hd, hel⟩ := ES.elim_mk (f := fun key la x => match key with
            | some i => K.exit i (enc false s (Code.dsts c) L.ks la x)
            | none => K.ret (enc false s (Code.dsts c) L.ks la x)) hmk
          obtain ⟨⟨β2, q1, q2⟩, ls', h', hok'⟩ := decAt_sound h.fine h.bsize hbh g1 g2 f1 f2 rfl f3 f4 hd false
          refine ⟨_, β2, ?_, q1, enc_ext hok' y q2⟩
          rw [hel] at e
          cases key <;> exact e
        split at hi
        · rename_i y hfx
          rw [← hf] at hfx
          refine wpIn_mono (ih.1 _ rd b _ _ _ hfx F n C βh a w hF (hrd.mono hbh) (hY.mono (CxLe.refl _) hbh) hnf hx) fun ex' a' w' ⟨s', β', g1, g2, g3⟩ => ?_
          cases ex' with
          | normal =>
            simp only [Kt.at, Option.map_eq_some_iff] at g1
            obtain ⟨y', hd, hy⟩ := g1
            cases hy
            obtain ⟨⟨β2, q1, q2⟩, _⟩ := decAt_sound h.fine h.bsize hbh g2 g3 f1 f2 rfl f3 f4 hd true
            exact ihm _ β2 a' w' hi q1 q2
          | exit i => simp only [Kt.at, Option.map_eq_some_iff] at g1; obtain ⟨_, _, hy⟩ := g1; simp at hy
          | ret => simp only [Kt.at, Option.map_eq_some_iff] at g1; obtain ⟨_, _, hy⟩ := g1; simp at hy
          | goto _ => simp [Kt.at] at g1
          | panic _ => simp [Kt.at] at g1
          | outgrown => simp [Kt.at] at g1
        · rename_i e' hfx
          rw [← hf] at hfx
          simp only [Option.some.injEq] at hi
          refine wpIn_mono (ih.1 _ rd b _ _ _ hfx F n C βh a w hF (hrd.mono hbh) (hY.mono (CxLe.refl _) hbh) hnf hx) fun ex' a' w' ⟨s', β', g1, g2, g3⟩ => ?_
          cases ex' with
          | normal => simp only [Kt.at, Option.map_eq_some_iff] at g1; obtain ⟨_, _, hy⟩ := g1; simp at hy
          | exit i =>
            simp only [Kt.at, Option.map_eq_some_iff] at g1
            obtain ⟨e2, hmk, hy⟩ := g1
            cases hy
            obtain ⟨s2, β2, k1, k2, k3⟩ := out (some i) s' β' a' w' _ g2 g3 hmk hi
            exact ⟨s2, β2, k1, k2, k3⟩
          | ret =>
            simp only [Kt.at, Option.map_eq_some_iff] at g1
            obtain ⟨e2, hmk, hy⟩ := g1
            cases hy
            obtain ⟨s2, β2, k1, k2, k3⟩ := out none s' β' a' w' _ g2 g3 hmk hi
            exact ⟨s2, β2, k1, k2, k3⟩
          | goto _ => simp [Kt.at] at g1
          | panic _ => simp [Kt.at] at g1
          | outgrown => simp [Kt.at] at g1
        · simp at hi
    exact rounds m _ β1 a w hit hr1 ⟨δ1, hb1⟩
  | rangeFunc g ps assign body iha ihb =>
    refine ⟨?_, by intro x' y' hxy; simp at hxy⟩
    intro R rd b s K r e F n C β a w hF hrd hY hnf h
    simp only [arun] at e
    split at e
    rotate_left
    · simp at e
    rename_i gf caps hg
    split at e
    rotate_left
    · simp at e
    rename_i d s1 hd hin
    have hds := hΓ.inl gf d hd
    obtain ⟨bs, hv, hb⟩ := h.ev1 hg
    refine wpIn_rangeFunc fun fn hfn => ?_
    obtain ⟨l, mark, w1, rr, δ, dl, he, h1, hrr, rfl, hrc, hL1, ht1, hE1⟩ := rangeIn_sound (P := P) hrd h hin fn ps assign body
    generalize hLd : s1.heap.length - 1 = L at *
    refine ⟨rr.blk, mark, w1, { target := .fn (.func gf) bs.toArray, args := #[.func (.yield rr.blk) #[] #[]] }, w1, gf, (.func (.yield rr.blk) #[] #[] :: bs).toArray, w1, he, ?_, fun f' _ => hF.fn f', ?_, fun hh => by simp [hF.depth] at hh, ?_⟩
    · simp only [resolve, hv]; simp [go_sem]
    · simp only [invoke, hds.1]
      congr 2
      simp
    · refine hF.calls ((hds.2 C (β ++ δ) _ R _ _ r s1 e { a with defers := mark ++ a.defers } w1 (.func (.yield rr.blk) #[] #[] :: bs) ?_ h1 ⟨⟨rr, hrr, rfl⟩, ?_⟩).mono ?_)
      · -- the rounds
        intro l' H' hl'
        simp only [lookY] at hl'
        split at hl'
        rotate_left
        · exact (hY.mono ((CxLe.push C s1 { a with defers := mark ++ a.defers })) ⟨δ, rfl⟩) l' H' hl'
        rename_i hll
        subst hll
        simp only [Option.some.injEq] at hl'
        subst hl'
        refine ⟨rr, hrr, fun C' hC' R' ts k r' s' e' β' a' w' vs hβ' h' hts => ?_⟩
        dsimp only at e'
        split at e'
        rotate_left
        · simp at e'
        rename_i f hfL
        split at e'
        rotate_left
        · simp at e'
        rename_i hsz
        obtain ⟨δ', rfl⟩ := hβ'
        have hrr' : (β ++ δ ++ δ')[L]? = some rr := get_app hrr
        obtain ⟨rc, q1, q2⟩ := h'.lp_at hfL hrr'
        rw [hrc] at q1; cases q1
        have q := h'.frs ⟨s1.tmps, s1.marks, { a with defers := mark ++ a.defers }⟩ (hC'.frs _ (List.mem_cons_self ..))
        have hlen := All2.len hts
        have hy := run_yield (P := P) (args := vs.toArray) q2 (by simp; omega)
        refine ⟨fn, _, assign, body, hy, roundIn_of_wpIn trivial ?_⟩
        have hfold : ((ps.zip vs.toArray).foldl (fun (tm : Array Value) p => tm.setIfInBounds p.1 p.2) a.tmps) = ((ps.toList.zip vs).foldl (fun (tm : Array Value) p => tm.setIfInBounds p.1 p.2) a.tmps) := by
          rw [← Array.foldl_toList]; simp
        have hCC : CxLe C (C'.push s' a') := (CxLe.push C s1 { a with defers := mark ++ a.defers }).trans (hC'.trans (CxLe.push C' s' a'))
        have hYY : ∀ {βx : List Bl}, (∃ δx, βx = β ++ δ ++ δ' ++ δx) → YOK P (C'.push s' a') βx Γ.yl := fun ⟨δx, e⟩ => hY.mono hCC ⟨δ ++ δ' ++ δx, by rw [e]; simp⟩
        have h0 : Rel (C'.push s' a') { tmps := putArgs s1.tmps ps.toList ts, heap := s'.heap, marks := [] } (β ++ δ ++ δ') { tmps := (ps.zip vs.toArray).foldl (fun (tm : Array Value) p => tm.setIfInBounds p.1 p.2) a.tmps, defers := [] } w' := by
          refine h'.enter ?_ ?_
          · rw [hfold, foldl_size, putArgs_len]; exact q.tsize
          · intro i t ht
            rw [hfold]
            exact putArgs_R ps.toList ts s1.tmps a.tmps vs q.tsize q.tm hts i t ht
        have hrd2 : ∀ {βx : List Bl}, (∃ δx, βx = β ++ δ ++ δ' ++ δx) → RdOK (Fence.wide.inRound rr.blk) βx (some L) := fun ⟨δx, e⟩ => ⟨rr, _, by rw [e]; exact get_app hrr', hrc, rfl⟩
        refine wpIn_mono (iha.1 R' (some L) b _ _ r' e' (Fence.wide.inRound rr.blk) 0 _ _ _ _ (.inr ⟨rr.blk, rfl⟩) (hrd2 ⟨[], by simp⟩) (hYY ⟨[], by simp⟩) (fun q b hb => hnf q b (hCC.F ▸ hb)) h0) fun ex a2 w2 ⟨s2, β2, g1, g2, g3⟩ => ?_
        cases ex with
        | normal =>
          simp only [Kt.at] at g1
          split at g1
          rotate_left
          · simp at g1
          rename_i hb2
          obtain ⟨f2, hf2⟩ := hat_eq hb2 (by simp)
          obtain ⟨δ2, hδ2⟩ := g3.bx
          have hr2 : β2[L]? = some rr := by rw [hδ2]; exact get_app hrr'
          obtain ⟨rc2, p1, p2⟩ := g2.lp_at hf2 hr2
          rw [hrc] at p1; cases p1
          refine ⟨_, run_beginRound p2 rfl, ?_⟩
          have h2 := g2.lp_turn hf2 hr2 hrc .busy true
          refine wpIn_mono (ihb.1 R' (some L) b _ _ r' g1 (Fence.wide.inRound rr.blk) 0 _ _ _ _ (.inr ⟨rr.blk, rfl⟩) (hrd2 ⟨δ2, hδ2⟩) (hYY ⟨δ2, hδ2⟩) (fun q b hb => hnf q b (hCC.F ▸ hb)) h2) fun ex a3 w3 ⟨s3, β3, k1, k2, k3⟩ => ?_
          cases ex with
          | normal => exact roundEnd_sound (s0 := { tmps := putArgs s1.tmps ps.toList ts, heap := s'.heap, marks := [] }) (st := .ready) rfl g3 k3 rfl hfL (.inr ⟨rfl, rfl⟩) (by simp) hrr' hrc k2 k1
          | ret => exact roundEnd_sound (s0 := { tmps := putArgs s1.tmps ps.toList ts, heap := s'.heap, marks := [] }) (st := .ret) rfl g3 k3 rfl hfL (.inl rfl) (by simp) hrr' hrc k2 k1
          | exit i => exact roundEnd_sound (s0 := { tmps := putArgs s1.tmps ps.toList ts, heap := s'.heap, marks := [] }) (st := .exit i) rfl g3 k3 rfl hfL (.inl rfl) (by simp) hrr' hrc k2 k1
          | goto _ => simp [Kt.at] at k1
          | panic _ => simp [Kt.at] at k1
          | outgrown => simp [Kt.at] at k1
        | exit i => simp [Kt.at] at g1
        | ret => simp [Kt.at] at g1
        | goto _ => simp [Kt.at] at g1
        | panic _ => simp [Kt.at] at g1
        | outgrown => simp [Kt.at] at g1
      · -- what is captured
        have := call_caps (w := w1) (N := C.N s1.heap (β ++ δ) w1) (Nf := C.fresh s1.heap (β ++ δ) w1) (β := β ++ δ) (hb.mono fun l b ⟨r, hr, e⟩ => ⟨r, get_app hr, e⟩)
        exact this
      · -- behind it
        rintro ee w2 ⟨v, h2, tv, β2, rfl, hk, hrel2, _, hgr⟩
        obtain ⟨δ2, rfl⟩ := hgr.bx
        have hr2 : (β ++ δ ++ δ2)[L]? = some rr := get_app hrr
        have fin : ∀ (st : LS), hat h2 L = .lp st → st ≠ .busy → ∃ w4, (Instr.endLoop rr.blk).run P w2 = .ok st.pe w4 ∧ Rel C { s1 with heap := h2.set L (true, .dead) } (β ++ δ ++ δ2) { a with defers := mark ++ a.defers } w4 := by
          intro st hst hne
          obtain ⟨f2, hf2⟩ := hat_eq hst (by simp)
          obtain ⟨rc2, p1, p2⟩ := hrel2.lp_at hf2 hr2
          refine ⟨_, run_endLoop p2 (by cases st <;> simp_all [LS.st]), hrel2.lp_end hf2 hr2 _⟩
        have hext : Ext (· ∈ Code.dsts (.rangeFunc g ps assign body)) s { s1 with heap := h2.set L (true, .dead) } β (β ++ δ ++ δ2) := by
          have hg' := grown_ext (s := s1) (β := β ++ δ) hgr (· ∈ Code.dsts (.rangeFunc g ps assign body))
          have h12 := (hE1.mono (d' := (· ∈ Code.dsts (.rangeFunc g ps assign body))) fun i hi => hi.elim).trans hg'
          have hLs : s.heap.length ≤ L := by
            have := hE1.hl
            have hl1 := (List.getElem?_eq_some_iff.1 hL1).1
            apply Nat.le_of_not_lt
            intro hlt
            cases rd with
            | none => simp only [rangeIn, Option.some.injEq] at hin; subst hin; simp at hLd; omega
            | some L0 =>
              simp only [rangeIn] at hin
              split at hin
              · simp only [Option.some.injEq] at hin; subst hin; simp at hLd; omega
              · simp at hin
          refine ⟨h12.bx, h12.tm, h12.tl, by simpa using h12.hl, fun l o hl ho => ?_, h12.mks, fun l hl => ?_⟩
          · have ho : (h2.set L (true, AObj.dead))[l]? = some (false, o) := ho
            rw [List.getElem?_set_ne (by omega)] at ho
            exact h12.hp l o hl ho
          · have hll := (List.getElem?_eq_some_iff.1 hl).1
            show (h2.set L (true, AObj.dead))[l]? = _
            rw [List.getElem?_set_ne (by omega)]
            exact h12.hm l hl
        dsimp only at hk
        split at hk
        · rename_i hst
          obtain ⟨w4, x1, x2⟩ := fin _ hst (by simp)
          exact ⟨none, w4, x1, _, _, hk, x2, hext⟩
        · rename_i hst
          obtain ⟨w4, x1, x2⟩ := fin _ hst (by simp)
          exact ⟨some .ret, w4, x1, wpIn_ret ⟨_, _, hk, x2, hext⟩⟩
        · rename_i i hst
          obtain ⟨w4, x1, x2⟩ := fin _ hst (by simp)
          exact ⟨some (.exit i), w4, x1, wpIn_exit ⟨_, _, hk, x2, hext⟩⟩
        · simp at hk
  | _ => exact ⟨by intro R rd b s K r e; simp [arun] at e, by intro x' y' hxy; simp at hxy⟩

theorem arun_sound (hΓ : Γ.Sound P) (hm : P.follows .mixedOrders = true) {an : Ann} (c : Code) (R : Type) (rd : Option Nat) (b : Nat) (s : AS) (K : Kt R) (r : R) (e : arun P Γ an c R rd b s K = some r)
    (F : Fence) (n : Nat) (C : Cx) (β : List Bl) (a : Act) (w : World) (hF : FW F) (hrd : RdOK F β rd) (hY : YOK P C β Γ.yl) (hnf : Γ.NF C) (h : Rel C s β a w) :
    c.wpIn F n P (Post C s β (· ∈ Code.dsts c) K r) a w := (arun_sound2 hΓ hm c).1 R rd b s K r e F n C β a w hF hrd hY hnf h
end
end Go.Proofs.AM
end

section
namespace Go.Proofs.AM
open Go Go.RowKit

section
variable {P : Program} {C : Cx} {s : AS} {β : List Bl} {a : Act} {w : World}

theorem Rel.unmark (h : Rel C s β a w) {l : Nat} {ms : List Nat} (hm : s.marks = l :: ms) (hl : l ∉ ms) (hfr : ∀ f ∈ C.frs, l ∉ f.marks) :
    ∃ b ds, a.defers = { target := .collected b, args := #[] } :: ds ∧ w.heap[b]? = some (.deferred (some [])) ∧
      Rel C { s with heap := s.heap.set l (true, .dead), marks := ms } β { a with defers := ds } (w.putObj b (.deferred none)) := by
  obtain ⟨bs, e, hb⟩ := h.defers
  rw [hm] at hb
  match bs, hb with
  | b :: bs, hb =>
    obtain ⟨⟨r, hr, rfl, ho⟩, hb⟩ := hb
    have hRm : w.heap[r.blk]? = some (.deferred (some [])) := h.ob l _ r ho hr
    have hlt : r.blk < w.heap.size := (Array.getElem?_eq_some_iff.1 hRm).1
    refine ⟨r.blk, bs.map fun b => { target := .collected b, args := #[] }, by rw [e]; rfl, hRm, ?_⟩
    have h1 : Rel C { s with marks := ms } β { a with defers := bs.map fun b => { target := .collected b, args := #[] } } w :=
      { h with defers := ⟨bs, rfl, hb⟩, tsize := h.tsize, tm := h.tm }
    have hll : l < s.heap.length := (List.getElem?_eq_some_iff.1 ho).1
    have only : ∀ (l1 : Nat) (o1 : Bool × AObj), (s.heap.set l (true, AObj.dead))[l1]? = some o1 → (l1 = l ∨ s.heap.length ≤ l1) → o1 = (true, .dead) := by
      intro l1 o1 h1 h2
      have : l1 = l := by
        rcases h2 with h2 | h2
        · exact h2
        · have := (List.getElem?_eq_some_iff.1 h1).1; simp at this; omega
      subst this
      simp [hll] at h1; exact h1.symm
    have := h1.gen (s.heap.set l (true, .dead)) [] (w.putObj r.blk (.deferred none)) (fun x => x = l) rfl rfl rfl (by simp [World.putObj]) (by simp)
      (fun l1 o1 h1 hn => ⟨o1, by rw [List.getElem?_set_ne (Ne.symm hn)]; exact h1, rfl⟩)
      (fun l1 hl1 h1 => by
        have : l ≠ l1 := fun e => by
          rcases hl1 with hl1 | ⟨f, hf, hl1⟩
          · exact hl (e ▸ hl1)
          · exact hfr f hf (e ▸ hl1)
        rw [List.getElem?_set_ne this]; exact h1)
      (fun b hb hx => World.putObj_heap_other (fun e => hx l _ r ho hr rfl (by rw [e]; simp [AObj.occ])))
      (fun l1 o1 r1 b h1 h2 h3 hx => by
        rw [only l1 o1 h1 h3] at hx; simp [AObj.occ] at hx)
      (fun l1 l2 o1 o2 r1 r2 b h1 h2 h1' h2' h3 h3' hx _ => by
        rw [only l1 o1 h1 h3] at hx; simp [AObj.occ] at hx)
      (fun l1 o1 r1 h1 h2 h3 _ _ _ _ => by
        rw [only l1 o1 h1 h3]; trivial)
    simpa using this.1

def nodupN : List Nat → Bool
  | [] => true
  | x :: l => !l.contains x && nodupN l

def killMarks (h : Heap) (ms : List Nat) : Heap := ms.foldl (fun h l => h.set l (true, .dead)) h

def AS.out (s : AS) : AS := { s with heap := killMarks s.heap s.marks, marks := [] }

theorem leave {F : Fence} {n : Nat} {fn : Func} {Rr : Ending → World → Prop} : ∀ (ms : List Nat) (s : AS) (a : Act) (w : World), Rel C s β a w → s.marks = ms → nodupN ms = true → (∀ l ∈ ms, ∀ f ∈ C.frs, l ∉ f.marks) →
    (∀ a' w', Rel C s.out β a' w' → a'.tmps = a.tmps → ∃ v, (results fn a.tmps).run P w' = .ok v w' ∧ Rr (.returned v) w') →
    LeavesInM F n P fn a.tmps Rr a.defers .returning w
  | [], s, a, w, h, hm, _, _, hfin => by
    obtain ⟨bs, e, hb⟩ := h.defers
    rw [hm] at hb
    match bs, hb with
    | [], _ =>
      rw [e]
      refine hfin a w ?_ rfl
      have : s.out = s := by unfold AS.out; rw [hm]; cases s; simp_all [killMarks]
      rw [this]; exact h
  | l :: ms, s, a, w, h, hm, hn, hfs, hfin => by
    simp only [nodupN, Bool.and_eq_true, Bool.not_eq_true'] at hn
    obtain ⟨b, ds, e, hw, h'⟩ := h.unmark hm (by simpa using hn.1) (hfs l (by simp))
    rw [e]
    refine ⟨by simp, .inl ⟨b, _, rfl, run_takeDeferred hw, ?_⟩⟩
    have := leave ms _ { a with defers := ds } _ h' rfl hn.2 (fun l hl => hfs l (by simp [hl])) (fn := fn) (Rr := Rr) (F := F) (n := n) (fun a' w' hr ht => by
      refine hfin a' w' ?_ ht
      have : s.out = AS.out { s with heap := s.heap.set l (true, .dead), marks := ms } := by
        unfold AS.out; rw [hm]; rfl
      rw [this]; exact hr)
    exact this

def ares1 (P : Program) (s : AS) : ResultVar → Option TV
  | .tmp t => s.tmps[t]?
  | .cell a t => match s.tmps[a]? with
    | some (.one (.ptr l off)) => aload P s.heap t (.ptr l off) some
    | _ => none

def aresults (P : Program) (s : AS) : List ResultVar → Option (List TV)
  | [] => some []
  | r :: l => match ares1 P s r, aresults P s l with
    | some t, some ts => some (t :: ts)
    | _, _ => none

def resOf (tmps : Array Value) : ResultVar → Sem Value
  | .tmp t => pure (tmps.getD t undef)
  | .cell a t => do loadVar t (← asAddr (tmps.getD a undef))

theorem ares1_sound (h : Rel C s β a w) {x : ResultVar} {t : TV} (e : ares1 P s x = some t) : ∃ v, (resOf a.tmps x).run P w = .ok v w ∧ t.R w (C.N s.heap β w) (C.fresh s.heap β w) β v := by
  cases x with
  | tmp i => exact ⟨_, by simp [resOf], h.tm i t e⟩
  | cell i ty =>
    simp only [ares1] at e
    split at e
    · rename_i l off hi
      have hp : (AV.ptr l off).R w (C.N s.heap β w) (C.fresh s.heap β w) β (a.tmps.getD i undef) := h.tm i _ hi
      obtain ⟨tv, v, h1, h2, h3⟩ := aload_sound (P := P) h hp e
      cases h1
      refine ⟨v, ?_, h3⟩
      obtain ⟨r, hr, hv⟩ := hp
      have hv' : a.tmps.getD i undef = .pointer (some ⟨r.blk, r.base + off, none⟩) := hv
      rw [hv'] at h2
      simp only [resOf, hv', asAddr, pure_bind]
      simpa [Instr.loadAt, Instr.sureAddr] using h2
    · simp at e

theorem aresults_sound (h : Rel C s β a w) : ∀ {l : List ResultVar} {ts : List TV}, aresults P s l = some ts → ∃ vs : List Value, (l.mapM (resOf a.tmps)).run P w = .ok vs w ∧ All2 (TV.R w (C.N s.heap β w) (C.fresh s.heap β w) β) ts vs
  | [], ts, e => by
    simp only [aresults, Option.some.injEq] at e
    subst e
    exact ⟨[], by simp, trivial⟩
  | x :: l, ts, e => by
    unfold aresults at e
    split at e
    · rename_i t ts' h1 h2
      simp only [Option.some.injEq] at e
      subst e
      obtain ⟨v, e1, r1⟩ := ares1_sound h h1
      obtain ⟨vs, e2, r2⟩ := aresults_sound h h2
      exact ⟨v :: vs, by simp [e1, e2], r1, r2⟩
    · simp at e

theorem results_run {fn : Func} {tmps : Array Value} {vs : List Value} (e : (fn.results.toList.mapM (resOf tmps)).run P w = .ok vs w) :
    (results fn tmps).run P w = .ok (if h : vs.toArray.size = 1 then vs.toArray[0] else .tuple vs.toArray) w := by
  have hr : results fn tmps = (do
      let vs ← fn.results.mapM (resOf tmps)
      pure (if h : vs.size = 1 then vs[0] else .tuple vs)) := by
    unfold results
    congr 1
  rw [hr, Array.mapM_eq_mapM_toList]
  simp [e]
end

def lookF.{u} {α : Type u} : List (FuncId × α) → FuncId → Option α
  | [], _ => none
  | p :: r, f => if f = p.1 then some p.2 else lookF r f

def envOf (l : List (FuncId × CS)) (m : List (FuncId × HD) := []) (imm : List Nat := []) (inl : List (FuncId × ID) := []) : Env := { cs := lookF l, hd := lookF m, imm := imm, inl := lookF inl }

def CSs (P : Program) (l : List (FuncId × CS)) : Prop := ∀ f c, lookF l f = some c → c.Sound P f
def HDs (P : Program) (l : List (FuncId × HD)) : Prop := ∀ f c, lookF l f = some c → c.Sound P f
def IDs (P : Program) (l : List (FuncId × ID)) : Prop := ∀ f c, lookF l f = some c → c.Sound P f

theorem CSs.nil {P : Program} : CSs P [] := fun f c h => by simp [lookF] at h
theorem CSs.cons {P : Program} {f : FuncId} {c : CS} {r : List (FuncId × CS)} (h : c.Sound P f) (hr : CSs P r) : CSs P ((f, c) :: r) := fun g d e => by
  simp only [lookF] at e
  split at e
  · rename_i hg; subst hg; cases e; exact h
  · exact hr g d e
theorem HDs.nil {P : Program} : HDs P [] := fun f c h => by simp [lookF] at h
theorem HDs.cons {P : Program} {f : FuncId} {c : HD} {r : List (FuncId × HD)} (h : c.Sound P f) (hr : HDs P r) : HDs P ((f, c) :: r) := fun g d e => by
  simp only [lookF] at e
  split at e
  · rename_i hg; subst hg; cases e; exact h
  · exact hr g d e
theorem IDs.nil {P : Program} : IDs P [] := fun f c h => by simp [lookF] at h
theorem IDs.cons {P : Program} {f : FuncId} {c : ID} {r : List (FuncId × ID)} (h : c.Sound P f) (hr : IDs P r) : IDs P ((f, c) :: r) := fun g d e => by
  unfold lookF at e
  split at e
  · rename_i hg; subst hg; simp only [Option.some.injEq] at e; subst e; exact h
  · exact hr g d e
theorem envOf_sound {P : Program} {l : List (FuncId × CS)} {m : List (FuncId × HD)} {imm : List Nat} {inl : List (FuncId × ID)} (h : CSs P l) (k : HDs P m) (i : IDs P inl) : (envOf l m imm inl).Sound P := ⟨h, k, i, fun f t e h => by simp [envOf] at h⟩

def MZs (P : Program) (l : List (FuncId × (TypeId × TypeId))) : Prop := ∀ f t e, lookF l f = some (t, e) → BytesAt P f t e
theorem MZs.nil {P : Program} : MZs P [] := fun f t e h => by simp [lookF] at h
theorem MZs.cons {P : Program} {f : FuncId} {t e : TypeId} {r : List (FuncId × (TypeId × TypeId))} (h : BytesAt P f t e) (hr : MZs P r) : MZs P ((f, (t, e)) :: r) := fun g u v he => by
  simp only [lookF] at he
  split at he
  · rename_i hg; subst hg; simp only [Option.some.injEq, Prod.mk.injEq] at he; obtain ⟨rfl, rfl⟩ := he; exact h
  · exact hr g u v he
def aargs : (ps : List (Bool × K)) → PDen ps → List TV
  | [], _ => []
  | p :: ps, x => (if (p.1 && p.2.wide) = true then .dat p.2 x.1 false else (shapeTV p.1 (p.2.cells false x.1)).getD (.one .junk)) :: aargs ps x.2

def afin (P : Program) (fn : Func) (rs : List (Bool × K)) (share : Bool) (s : AS) : Option (PDen rs) :=
  if nodupN s.marks = true then match aresults P s.out fn.results.toList with
    | some ts => match adec s.out.heap true rs ts with
      | some (y, f) => if (share || f) = true then some y else none
      | none => none
    | none => none
  else none

noncomputable def afun (P : Program) (Γ : Env) (an : Ann) (fn : Func) (ps rs : List (Bool × K)) (share : Bool) (x : PDen ps) : Option (PDen rs) :=
  match fn.body with
  | none => none
  | some c => arun P Γ an c (PDen rs) none 0 { tmps := aargs ps x ++ List.replicate (fn.ntmps - ps.length) undefTV, heap := [], marks := [] }
      { norm := afin P fn rs share, exit := fun _ _ => none, ret := afin P fn rs share }

section
variable {P : Program} {Γ : Env}

theorem aargs_R {w : World} {N Nf : Nat → Prop} : ∀ {ps : List (Bool × K)} {x : PDen ps} {vs : List Value}, argsR w N ps x vs → All2 (TV.R w N Nf []) (aargs ps x) vs
  | [], _, _, h => by simp [argsR] at h; subst h; trivial
  | (agg, k) :: ps, x, _, ⟨v, vs', rfl, h1, h2⟩ => by
    refine ⟨?_, aargs_R h2⟩
    cases agg with
    | true =>
      obtain ⟨cs, rfl, h1⟩ := h1
      show TV.R w N Nf [] (if (true && k.wide) = true then .dat k x.1 false else (shapeTV true (K.cells false k x.1)).getD (.one .junk)) _
      split
      · exact TV.dat_R.2 ⟨cs, rfl, h1⟩
      · exact ⟨cs, rfl, K.cells_R (N := N) (Nf := Nf) false k _ _ h1⟩
    | false =>
      have h1 : k.rd w N x.1 [v] := h1
      have hc := K.cells_R (N := N) (Nf := Nf) (β := []) false k _ _ h1
      show TV.R w N Nf [] ((shapeTV false (K.cells false k x.1)).getD (.one .junk)) v
      generalize K.cells false k x.1 = cc at hc ⊢
      match cc, hc with
      | [c], hc => exact hc.1

theorem All2.len' {α β : Type} {R : α → β → Prop} : ∀ {l : List α} {m : List β}, All2 R l m → l.length = m.length
  | [], [], _ => rfl
  | _ :: _, _ :: _, h => by simp [All2.len' h.2]
  | [], _ :: _, h => h.elim
  | _ :: _, [], h => h.elim

theorem All2.get2 {α β : Type} {R : α → β → Prop} : ∀ {l : List α} {m : List β} {i : Nat} {x : α}, All2 R l m → l[i]? = some x → ∃ y, m[i]? = some y ∧ R x y
  | _ :: _, y :: _, 0, x, h, e => by simp at e; subst e; exact ⟨y, rfl, h.1⟩
  | _ :: _, _ :: _, i + 1, x, h, e => by simpa using All2.get2 h.2 (by simpa using e)
  | [], _, i, x, h, e => by simp at e
  | _ :: _, [], i, x, h, e => h.elim

theorem aargs_len : ∀ {ps : List (Bool × K)} {x : PDen ps}, (aargs ps x).length = ps.length
  | [], _ => rfl
  | _ :: _, _ => by simp [aargs, aargs_len]

theorem resR_of {w : World} {N : Nat → Prop} {rs : List (Bool × K)} {y : PDen rs} {vs : List Value} (h : argsR w N rs y vs) : resR w N rs y (if h : vs.toArray.size = 1 then vs.toArray[0] else .tuple vs.toArray) := by
  match rs, y, h with
  | [], y, h => simp [argsR] at h; subst h; exact ⟨[], rfl, rfl⟩
  | [p], y, ⟨v, vs', e, h1, h2⟩ =>
    simp [argsR] at h2; subst h2; subst e
    exact h1
  | p :: q :: rs, y, h =>
    obtain ⟨v, vs', e, h1, v2, vs2, e2, h3, h4⟩ := h
    subst e2; subst e
    exact ⟨v :: v2 :: vs2, by simp, v, v2 :: vs2, rfl, h1, v2, vs2, rfl, h3, h4⟩

theorem afun_sound (hΓ : Γ.Sound P) (hyl : Γ.yl = []) (hm : P.follows .mixedOrders = true) {an : Ann} {f : FuncId} {fn : Func} (hf : P.funcs[f]? = some fn) (hn : (fn.name == "runtime.NumGoroutine") = false) {ps rs : List (Bool × K)} {share : Bool} {model : PDen ps → Option (PDen rs)}
    {c : Code} (hbody : fn.body = some c) (hmod : ∀ x y, model x = some y → afun P Γ an fn ps rs share x = some y) : (CS.mk ps rs share model).Sound P f := by
  · refine ⟨fun args w => ?_, fun x y hxy w N args hN hargs => ?_⟩
    · have h1 : fn.name ≠ "runtime.NumGoroutine" := by simpa using hn
      simp [callFunc, hf, h1, hbody, mark]
    · have e := hmod x y hxy
      simp only [afun, hbody] at e
      refine callsIn_wide.1 (callsIn_of_wp_marks (n := 5) hf hbody trivial ?_)
      have hA := aargs_R (Nf := fun b => w.heap.size ≤ b ∧ b < w.heap.size ∧ Free [] [] b) hargs
      have hlen : args.length = ps.length := by rw [← All2.len' hA, aargs_len]
      have hN' : ∀ b, N b → Cx.N ⟨w, N, fun _ => False, []⟩ [] [] w b := fun b hb => ⟨.inl hb, hN b hb, fun l o r h => by simp at h⟩
      have hrel : Rel ⟨w, N, fun _ => False, []⟩ { tmps := aargs ps x ++ List.replicate (fn.ntmps - ps.length) undefTV, heap := [], marks := [] } []
          { tmps := args.toArray ++ Array.replicate (fn.ntmps - args.toArray.size) undef, defers := [] } w := by
        refine { defers := ⟨[], rfl, trivial⟩, tsize := ?_, tm := ?_, bsize := rfl, ob := fun l o r h => by simp at h, occ := fun l o r b h => by simp at h, apart := fun l l' o o' r r' b h => by simp at h, keep := Kept.refl _ _, frs := fun f hf => by simp at hf }
        · simp [aargs_len, hlen]
        · intro i t hi
          by_cases hl : i < ps.length
          · have hi : (aargs ps x ++ List.replicate (fn.ntmps - ps.length) undefTV)[i]? = some t := hi
            rw [List.getElem?_append_left (by rw [aargs_len]; exact hl)] at hi
            obtain ⟨v, hv, hR⟩ := All2.get2 hA hi
            have : (args.toArray ++ Array.replicate (fn.ntmps - args.toArray.size) undef).getD i undef = v := by
              rw [Array.getD_eq_getD_getElem?, Array.getElem?_append_left (by simpa [hlen] using hl)]
              simp [hv]
            show t.R w _ _ _ _
            rw [this]
            exact TV.R_mono (AV.R_mono (fun _ _ => rfl) hN' (fun b hb => by have h1 : w.heap.size ≤ b := hb.1; have h2 : b < w.heap.size := hb.2.1; omega) (fun b hb => hb) (fun _ _ h => h)) _ _ hR
          · have hi : (aargs ps x ++ List.replicate (fn.ntmps - ps.length) undefTV)[i]? = some t := hi
            rw [List.getElem?_append_right (by rw [aargs_len]; omega), aargs_len, List.getElem?_replicate] at hi
            split at hi
            · cases hi
              have : (args.toArray ++ Array.replicate (fn.ntmps - args.toArray.size) undef).getD i undef = undef := by
                rw [Array.getD_eq_getD_getElem?, Array.getElem?_append_right (by simpa [hlen] using hl)]
                simp [Array.getElem?_replicate]
                split <;> rfl
              show undefTV.R w _ _ _ _
              rw [this]
              exact undefTV_R
            · simp at hi
      have fin : ∀ (s' : AS) (β' : List Bl) (a' : Act) (w' : World), afin P fn rs share s' = some y → Rel ⟨w, N, fun _ => False, []⟩ s' β' a' w' →
          LeavesInM Fence.wide 5 P fn a'.tmps (fun e w' => ∃ v, e = .returned v ∧ Grew w w' ∧ resR w' (fun b => (share = true ∧ N b) ∨ (w.heap.size ≤ b ∧ b < w'.heap.size)) rs y v) a'.defers .returning w' := by
        intro s' β' a' w' hfin h
        unfold afin at hfin
        split at hfin
        rotate_left
        · simp at hfin
        rename_i hnd
        refine leave s'.marks s' a' w' h rfl hnd (fun l _ f hf => by simp at hf) fun a2 w2 h2 ht => ?_
        split at hfin
        rotate_left
        · simp at hfin
        rename_i ts hts
        split at hfin
        rotate_left
        · simp at hfin
        rename_i y' f hd
        split at hfin
        rotate_left
        · simp at hfin
        rename_i hsf
        simp only [Option.some.injEq] at hfin
        subst hfin
        obtain ⟨vs, e1, e2⟩ := aresults_sound h2 hts
        rw [ht] at e1
        refine ⟨_, results_run e1, _, rfl, ⟨h2.keep.os, h2.keep.tape, h2.keep.output, h2.keep.size, fun b hb => h2.keep.block b hb id, h2.keep.drawn⟩, ?_⟩
        refine resR_of (argsR_mono (fun _ _ => rfl) (fun b hb => ?_) (adec_sound h2 e2 hd))
        cases f with
        | true =>
          have hb : AnyF _ w2 b := hb
          exact .inr ⟨hb.1.resolve_right id, hb.2⟩
        | false =>
          have hb : Any _ w2 b := hb
          simp at hsf
          rcases hb.1 with h | h | h
          · exact .inl ⟨hsf, h⟩
          · exact .inr ⟨h, hb.2⟩
          · exact h.elim
      refine wpIn_mono (arun_sound hΓ hm c _ none 0 _ _ y e Fence.wide 5 _ [] _ w (.inl rfl) rfl (by rw [hyl]; exact YOK.nil _ _ _) (fun _ _ h => h) hrel) fun ex a' w' ⟨s', β', h1, h2, _⟩ => ?_
      cases ex with
      | normal => exact fin s' β' a' w' h1 h2
      | ret => exact fin s' β' a' w' h1 h2
      | exit i => simp [Kt.at] at h1
      | goto _ => simp [Kt.at] at h1
      | panic _ => simp [Kt.at] at h1
      | outgrown => simp [Kt.at] at h1
end
end Go.Proofs.AM
end

section
namespace Go.Proofs.AM
open Go Go.RowKit

section
variable {P : Program} {Γ : Env}

def aend {R : Type} (G : AS → Option R) (s : AS) : Option R := if nodupN s.marks = true then G s.out else none

def aendI {R : Type} (n0 : Nat) (G : AS → Option R) (s : AS) : Option R := if (nodupN s.marks && s.marks.all fun l => decide (n0 ≤ l)) = true then G s.out else none

theorem killMarks_len : ∀ (ms : List Nat) (h : Heap), (killMarks h ms).length = h.length
  | [], _ => rfl
  | m :: ms, h => by
    show (killMarks (h.set m (true, .dead)) ms).length = _
    rw [killMarks_len ms]; simp

theorem killMarks_get {l : Nat} : ∀ (ms : List Nat) (h : Heap), l ∉ ms → (killMarks h ms)[l]? = h[l]?
  | [], _, _ => rfl
  | m :: ms, h, hl => by
    show (killMarks (h.set m (true, .dead)) ms)[l]? = _
    rw [killMarks_get ms _ (fun hh => hl (by simp [hh])), List.getElem?_set_ne (fun e => hl (by simp [e]))]

theorem body_coreI (hΓ : Γ.Sound P) (hm : P.follows .mixedOrders = true) {an : Ann} {f : FuncId} {fn : Func} (hf : P.funcs[f]? = some fn) {c : Code} (hbody : fn.body = some c) {R : Type} {G : AS → Option R} {y : R}
    {C : Cx} {s0 : AS} {β0 : List Bl} {args : Array Value} {w : World} (h : Rel C s0 β0 { tmps := args ++ Array.replicate (fn.ntmps - args.size) undef, defers := [] } w) (n0 : Nat) (hn0 : ∀ f ∈ C.frs, ∀ l ∈ f.marks, l < n0) (hn1 : s0.heap.length ≤ n0)
    (hY : YOK P C β0 Γ.yl) (hnf : Γ.NF C) (e : arun P Γ an c R none 0 s0 { norm := aendI n0 G, exit := fun _ _ => none, ret := aendI n0 G } = some y)
    {S : Value → World → Prop} (hG : ∀ s β a w', G s = some y → Rel C s β a w' → Grown s0.heap s.heap β0 β → ∃ v, (results fn a.tmps).run P w' = .ok v w' ∧ S v w') :
    Calls P f args w fun e w' => ∃ v, e = .returned v ∧ S v w' := by
  refine callsIn_wide.1 (callsIn_of_wp_marks (n := 5) hf hbody trivial ?_)
  have fin : ∀ (s' : AS) (β' : List Bl) (a' : Act) (w' : World), aendI n0 G s' = some y → Rel C s' β' a' w' → Grown s0.heap s'.heap β0 β' →
      LeavesInM Fence.wide 5 P fn a'.tmps (fun e w' => ∃ v, e = .returned v ∧ S v w') a'.defers .returning w' := by
    intro s' β' a' w' hfin h hb
    unfold aendI at hfin
    split at hfin
    rotate_left
    · simp at hfin
    rename_i hnd
    simp only [Bool.and_eq_true, List.all_eq_true, decide_eq_true_eq] at hnd
    refine leave s'.marks s' a' w' h rfl hnd.1 (fun l hl f hf hlf => by have := hnd.2 l hl; have := hn0 f hf l hlf; omega) fun a2 w2 h2 ht => ?_
    have hb2 : Grown s0.heap s'.out.heap β0 β' := by
      have nm : ∀ l, l < s0.heap.length → l ∉ s'.marks := fun l hl hm => by have := hnd.2 l hm; omega
      refine ⟨hb.bx, by show _ ≤ (killMarks _ _).length; rw [killMarks_len]; exact hb.hl, fun l o hl ho => ?_, fun l hl => ?_⟩
      · have ho : (killMarks s'.heap s'.marks)[l]? = some (false, o) := ho
        rw [killMarks_get _ _ (nm l hl)] at ho
        exact hb.hp l o hl ho
      · show (killMarks s'.heap s'.marks)[l]? = _
        rw [killMarks_get _ _ (nm l (List.getElem?_eq_some_iff.1 hl).1)]
        exact hb.hm l hl
    obtain ⟨v, e1, e2⟩ := hG _ _ _ _ hfin h2 hb2
    rw [ht] at e1
    exact ⟨v, e1, v, rfl, e2⟩
  refine wpIn_mono (arun_sound hΓ hm c _ none 0 _ _ y e Fence.wide 5 C β0 _ w (.inl rfl) rfl hY hnf h) fun ex a' w' ⟨s', β', h1, h2, h3⟩ => ?_
  cases ex with
  | normal => exact fin s' β' a' w' h1 h2 ⟨h3.bx, h3.hl, h3.hp, h3.hm⟩
  | ret => exact fin s' β' a' w' h1 h2 ⟨h3.bx, h3.hl, h3.hp, h3.hm⟩
  | exit i => simp [Kt.at] at h1
  | goto _ => simp [Kt.at] at h1
  | panic _ => simp [Kt.at] at h1
  | outgrown => simp [Kt.at] at h1

theorem body_core (hΓ : Γ.Sound P) (hm : P.follows .mixedOrders = true) {an : Ann} {f : FuncId} {fn : Func} (hf : P.funcs[f]? = some fn) {c : Code} (hbody : fn.body = some c) {R : Type} {G : AS → Option R} {y : R}
    {C : Cx} {s0 : AS} {β0 : List Bl} {args : Array Value} {w : World} (h : Rel C s0 β0 { tmps := args ++ Array.replicate (fn.ntmps - args.size) undef, defers := [] } w) (hfrs : C.frs = []) (hh : s0.heap = []) (hyl : Γ.yl = []) (hnf : Γ.NF C)
    (e : arun P Γ an c R none 0 s0 { norm := aend G, exit := fun _ _ => none, ret := aend G } = some y)
    {S : Value → World → Prop} (hG : ∀ s β a w', G s = some y → Rel C s β a w' → Grown s0.heap s.heap β0 β → ∃ v, (results fn a.tmps).run P w' = .ok v w' ∧ S v w') :
    Calls P f args w fun e w' => ∃ v, e = .returned v ∧ S v w' := by
  have he : aendI (R := R) 0 G = aend G := by funext s; simp [aendI, aend]
  exact body_coreI hΓ hm hf hbody h 0 (by simp [hfrs]) (by simp [hh]) (by rw [hyl]; exact YOK.nil _ _ _) hnf (by rw [he]; exact e) hG

def ainit (fn : Func) (ps : List (Bool × K)) (x : PDen ps) : AS := { tmps := aargs ps x ++ List.replicate (fn.ntmps - ps.length) undefTV, heap := [], marks := [] }

theorem init_rel {fn : Func} {ps : List (Bool × K)} {x : PDen ps} {w : World} {N : Nat → Prop} {args : List Value} (hN : ∀ b, N b → b < w.heap.size) (hargs : argsR w N ps x args) :
    Rel ⟨w, N, fun _ => False, []⟩ (ainit fn ps x) [] { tmps := args.toArray ++ Array.replicate (fn.ntmps - args.toArray.size) undef, defers := [] } w := by
  have hA := aargs_R (Nf := fun b => w.heap.size ≤ b ∧ b < w.heap.size ∧ Free [] [] b) hargs
  have hlen : args.length = ps.length := by rw [← All2.len' hA, aargs_len]
  have hN' : ∀ b, N b → Cx.N ⟨w, N, fun _ => False, []⟩ [] [] w b := fun b hb => ⟨.inl hb, hN b hb, fun l o r h => by simp at h⟩
  refine { defers := ⟨[], rfl, trivial⟩, tsize := ?_, tm := ?_, bsize := rfl, ob := fun l o r h => by simp [ainit] at h, occ := fun l o r b h => by simp [ainit] at h, apart := fun l l' o o' r r' b h => by simp [ainit] at h, keep := Kept.refl _ _, frs := fun f hf => by simp at hf }
  · simp [ainit, aargs_len, hlen]
  · intro i t hi
    by_cases hl : i < ps.length
    · have hi : (aargs ps x ++ List.replicate (fn.ntmps - ps.length) undefTV)[i]? = some t := hi
      rw [List.getElem?_append_left (by rw [aargs_len]; exact hl)] at hi
      obtain ⟨v, hv, hR⟩ := All2.get2 hA hi
      have : (args.toArray ++ Array.replicate (fn.ntmps - args.toArray.size) undef).getD i undef = v := by
        rw [Array.getD_eq_getD_getElem?, Array.getElem?_append_left (by simpa [hlen] using hl)]
        simp [hv]
      show t.R w _ _ _ _
      rw [this]
      exact TV.R_mono (AV.R_mono (fun _ _ => rfl) hN' (fun b hb => by have h1 : w.heap.size ≤ b := hb.1; have h2 : b < w.heap.size := hb.2.1; omega) (fun b hb => hb) (fun _ _ h => h)) _ _ hR
    · have hi : (aargs ps x ++ List.replicate (fn.ntmps - ps.length) undefTV)[i]? = some t := hi
      rw [List.getElem?_append_right (by rw [aargs_len]; omega), aargs_len, List.getElem?_replicate] at hi
      split at hi
      · cases hi
        have : (args.toArray ++ Array.replicate (fn.ntmps - args.toArray.size) undef).getD i undef = undef := by
          rw [Array.getD_eq_getD_getElem?, Array.getElem?_append_right (by simpa [hlen] using hl)]
          simp [Array.getElem?_replicate]
          split <;> rfl
        show undefTV.R w _ _ _ _
        rw [this]
        exact undefTV_R
      · simp at hi

def ownR (w w' : World) (N : Nat → Prop) (T : TypeId) (k : K) (xs : List k.den) (v : Value) : Prop :=
  ∃ r A c, v = .slice A r.n c ∧ r.n ≤ c ∧ r.slice A 0 r.n c ∧ (r.real = true → w.heap.size ≤ r.blk ∧ r.blk < w'.heap.size) ∧
    (AObj.vec T k xs false).R w' (fun b => N b ∧ ¬ (r.real = true ∧ b = r.blk)) (fun b => N b ∧ ¬ (r.real = true ∧ b = r.blk)) [] r

structure OS where
  ps : List (Bool × K)
  T : TypeId
  k : K
  share : Bool
  model : PDen ps → Option (List k.den)

def OS.Sound (P : Program) (f : FuncId) (c : OS) : Prop :=
  (∀ args w, (callFunc f args).run P w = .ok (.enter f args) w) ∧
  ∀ (x : PDen c.ps) (y : List c.k.den), c.model x = some y → ∀ (w : World) (N : Nat → Prop) (args : List Value), (∀ b, N b → b < w.heap.size) → argsR w N c.ps x args →
    Calls P f args.toArray w fun e w' => ∃ v, e = .returned v ∧ Grew w w' ∧ ownR w w' (fun b => (c.share = true ∧ N b) ∨ (w.heap.size ≤ b ∧ b < w'.heap.size)) c.T c.k y v

def OS.hd (c : OS) : HD where
  X := PDen c.ps × Bool
  Y := List c.k.den
  dec h ts := adec h (!c.share) c.ps ts
  model x := c.model x.1
  out h _ x y := (h ++ [(true, .vec c.T c.k y (!c.share || x.2))], .one (.vf h.length))
  push := true
  pushes := fun _ _ _ _ _ => ⟨_, rfl⟩
  two := fun _ => ⟨fun h h' ts x hs e => adec_two hs _ _ _ e, fun h h' ts x y hl => ⟨_, _, rfl, by rw [hl]⟩⟩

theorem OS.Sound.hd {f : FuncId} {c : OS} (hc : c.Sound P f) : c.hd.Sound P f := by
  refine ⟨hc.1, fun x y hxy C s β a w ts vs h hvs hdec => ?_⟩
  obtain ⟨x, fr⟩ := x
  have hy1 : c.model x = some y := hxy
  have hdec : adec s.heap (!c.share) c.ps ts = some (x, fr) := hdec
  have hargs := adec_sound h hvs hdec
  refine (hc.2 x y hy1 w _ vs (fun b hb => ?_) hargs).mono ?_
  · revert hb; cases c.share <;> cases fr <;> intro hb <;> first | exact hb.2.1 | exact hb.2
  · rintro e' w' ⟨v, rfl, hg, r, A, cc, q1, q2, q3, q4, q5⟩
    have hk := h.keep.size
    obtain ⟨h2, mv⟩ := h.push hg (.vec c.T c.k y (!c.share || fr)) r (fun b hb => by
        simp only [AObj.occ] at hb
        split at hb
        · rename_i hreal
          simp only [List.mem_singleton] at hb; subst hb
          exact q4 hreal
        · simp at hb)
      (fun mv hN hNf => by
        obtain ⟨p1, p2, p3, p4⟩ := q5
        refine ⟨p1, p2, p3, ?_⟩
        by_cases hreal : r.real = true
        · simp only [hreal, if_true] at p4 ⊢
          obtain ⟨pre, mid, post, hh, hp, hrow, hcap⟩ := p4
          refine ⟨pre, mid, post, hh, hp, rows_weak (fun _ _ => rfl) (fun b hb => ?_) hrow, hcap⟩
          obtain ⟨hb, hne⟩ := hb
          have hnew : w.heap.size ≤ b → b < w'.heap.size → C.fresh (s.heap ++ [(true, AObj.vec c.T c.k y (!c.share || fr))]) (β ++ [r]) w' b := fun h1 h2 => by
            refine ⟨by omega, h2, fun l o rr e1 e2 hx => ?_⟩
            by_cases hl : l < s.heap.length
            · rw [List.getElem?_append_left hl] at e1
              rw [List.getElem?_append_left (by rw [h.bsize]; exact hl)] at e2
              have := (h.occ l o rr b e1 e2 hx).1; omega
            · have hl' : l = s.heap.length := by have := (List.getElem?_eq_some_iff.1 e1).1; simp at this; omega
              subst hl'
              have e2' : rr = r := by rw [← h.bsize] at e2; simpa using e2.symm
              subst e2'
              have e1' : o = (true, AObj.vec c.T c.k y (!c.share || fr)) := by simpa using e1.symm
              subst e1'
              simp only [AObj.occ, hreal, if_true, List.mem_singleton] at hx
              exact hne ⟨by first | exact hreal | trivial, hx⟩
          cases hsh : c.share with
          | false =>
            simp only [Bool.not_false, Bool.true_or, if_true]
            rw [hsh] at hnew
            rcases hb with hb | hb
            · rw [hsh] at hb; simp at hb
            · simpa using hnew hb.1 hb.2
          | true =>
            rw [hsh] at hb hnew
            simp only [Bool.not_true, true_and, Bool.false_or] at hb hnew ⊢
            cases fr with
            | true =>
              simp only [if_true]
              rcases hb with hb | hb
              · have := hNf b hb; rw [hsh] at this; simpa using this
              · exact hnew hb.1 hb.2
            | false =>
              simp only [Bool.false_eq_true, if_false]
              rcases hb with hb | hb
              · have := hN b hb; rw [hsh] at this; simpa using this
              · exact Cx.fresh_N (hnew hb.1 hb.2)
        · simp only [hreal] at p4 ⊢
          exact p4)
    refine ⟨v, β ++ [r], rfl, h2, ?_, ⟨⟨[r], rfl⟩, by simp [OS.hd], fun l o hl ho => ?_, fun l hl => get_app hl⟩⟩
    · exact ⟨r, A, cc, by rw [← h.bsize]; simp, q1, q2, q3⟩
    · have ho : (s.heap ++ [(true, AObj.vec c.T c.k y (!c.share || fr))])[l]? = some (false, o) := ho
      rwa [List.getElem?_append_left hl] at ho
end
end Go.Proofs.AM
end

section
namespace Go.Proofs.AM
open Go Go.RowKit

def compOf : TV → Option (Bool × List AV)
  | .one a => some (false, [a])
  | .agg cs => some (true, cs)
  | .tup _ => none
  | .dat k x fr => some (true, K.cells fr k x)

def compsOf : List TV → Option (List (Bool × List AV))
  | [] => some []
  | t :: ts => match compOf t, compsOf ts with
    | some c, some cs => some (c :: cs)
    | _, _ => none

def joinTV : List TV → Option TV
  | [t] => some t
  | ts => match compsOf ts with
    | some cs => some (.tup cs)
    | none => none

def afinI {R : Type} (P : Program) (fn : Func) (k : Heap → TV → Option R) (s : AS) : Option R := match aresults P s fn.results.toList with
  | some ts => match joinTV ts with
    | some tv => k s.heap tv
    | none => none
  | none => none

noncomputable def aInl (P : Program) (Γ : Env) (an : Ann) (fn : Func) : ID where
  run Y R h ts k := match fn.body with
    | none => none
    | some c => if ts.length ≤ fn.ntmps then arun P { Γ with yl := Y } an c R none 0 { tmps := ts ++ List.replicate (fn.ntmps - ts.length) undefTV, heap := h, marks := [] }
        { norm := aendI h.length (afinI P fn k), exit := fun _ _ => none, ret := aendI h.length (afinI P fn k) }
      else none

section
variable {P : Program} {Γ : Env}

theorem compsOf_R {w : World} {N Nf : Nat → Prop} {β : List Bl} : ∀ {ts : List TV} {vs : List Value} {cs : List (Bool × List AV)}, All2 (TV.R w N Nf β) ts vs → compsOf ts = some cs → All2 (compR w N Nf β) cs vs
  | [], [], cs, _, e => by simp [compsOf] at e; subst e; trivial
  | t :: ts, v :: vs, cs, h, e => by
    unfold compsOf at e
    split at e
    rotate_left
    · simp at e
    rename_i c cs' h1 h2
    simp only [Option.some.injEq] at e
    subst e
    refine ⟨?_, compsOf_R h.2 h2⟩
    have ht := h.1
    cases t with
    | one a => simp [compOf] at h1; subst h1; exact ht
    | agg l => simp [compOf] at h1; subst h1; exact ht
    | tup l => simp [compOf] at h1
    | dat k x fr => simp [compOf] at h1; subst h1; exact ht.2
  | [], _ :: _, _, h, _ => h.elim
  | _ :: _, [], _, h, _ => h.elim

theorem joinTV_R {w : World} {N Nf : Nat → Prop} {β : List Bl} {ts : List TV} {vs : List Value} {tv : TV} (h : All2 (TV.R w N Nf β) ts vs) (e : joinTV ts = some tv) : tv.R w N Nf β (if h : vs.toArray.size = 1 then vs.toArray[0] else .tuple vs.toArray) := by
  unfold joinTV at e
  split at e
  · rename_i t
    match vs, h with
    | [v], h =>
      simp only [Option.some.injEq] at e; subst e
      exact h.1
  · rename_i hne
    split at e
    rotate_left
    · simp at e
    rename_i cs hcs
    simp only [Option.some.injEq] at e; subst e
    have hl := All2.len h
    have : ¬ vs.toArray.size = 1 := fun h1 => by
      have h1 : vs.length = 1 := by simpa using h1
      rw [← hl] at h1
      match ts, h1 with
      | [t], _ => exact hne t rfl
    rw [dif_neg this]
    exact ⟨vs, rfl, compsOf_R h hcs⟩

theorem aInl_sound (hΓ : Γ.Sound P) (hm : P.follows .mixedOrders = true) {an : Ann} {f : FuncId} {fn : Func} (hf : P.funcs[f]? = some fn) (hn : (fn.name == "runtime.NumGoroutine") = false) {c : Code} (hbody : fn.body = some c) (hi : (Γ.imm.any fun i => Nat.ble 300000 i) = false := by rfl) : (aInl P Γ an fn).Sound P f := by
  refine ⟨fun args w => ?_, fun C β Y R ts k r s e a w vs hY h hts => ?_⟩
  · have h1 : fn.name ≠ "runtime.NumGoroutine" := by simpa using hn
    simp [callFunc, hf, h1, hbody, mark]
  · simp only [aInl, hbody] at e
    split at e
    rotate_left
    · simp at e
    rename_i hle
    have hlen := All2.len hts
    have hΓ' : ({ Γ with yl := Y } : Env).Sound P := ⟨hΓ.cs, hΓ.hd, hΓ.inl, hΓ.mnz⟩
    have h0 : Rel (C.push s a) { tmps := ts ++ List.replicate (fn.ntmps - ts.length) undefTV, heap := s.heap, marks := [] } β { tmps := vs.toArray ++ Array.replicate (fn.ntmps - vs.toArray.size) undef, defers := [] } w := by
      refine h.enter (by simp [hlen]) fun i t ht => ?_
      by_cases hi : i < ts.length
      · rw [List.getElem?_append_left hi] at ht
        obtain ⟨v, hv, hR⟩ := hts.get ht
        have : (vs.toArray ++ Array.replicate (fn.ntmps - vs.toArray.size) undef).getD i undef = v := by
          rw [Array.getD_eq_getD_getElem?, Array.getElem?_append_left (by simpa [← hlen] using hi)]
          simp [hv]
        rw [this]; exact hR
      · rw [List.getElem?_append_right (by omega), List.getElem?_replicate] at ht
        split at ht
        · cases ht
          have : (vs.toArray ++ Array.replicate (fn.ntmps - vs.toArray.size) undef).getD i undef = undef := by
            rw [Array.getD_eq_getD_getElem?, Array.getElem?_append_right (by simpa [← hlen] using hi)]
            simp [Array.getElem?_replicate]
            split <;> rfl
          rw [this]; exact undefTV_R
        · simp at ht
    have hmk : ∀ f ∈ (C.push s a).frs, ∀ l ∈ f.marks, l < s.heap.length := by
      intro f hf l hl
      have := h0.mark_all (.inr ⟨f, hf, hl⟩)
      exact (List.getElem?_eq_some_iff.1 this).1
    refine (body_coreI (Γ := { Γ with yl := Y }) hΓ' hm hf hbody h0 s.heap.length hmk (Nat.le_refl _) hY (Env.NF.of (Γ := { Γ with yl := Y }) hi) e (S := fun v w' => CallPost C s β a k r (.returned v) w') ?_).mono ?_
    · intro s2 β2 a2 w2 hG h2 hg
      unfold afinI at hG
      split at hG
      rotate_left
      · simp at hG
      rename_i ts' hts'
      split at hG
      rotate_left
      · simp at hG
      rename_i tv htv
      obtain ⟨us, e1, e2⟩ := aresults_sound h2 hts'
      exact ⟨_, results_run e1, _, s2.heap, tv, β2, rfl, hG, h2.back, joinTV_R e2 htv, hg⟩
    · rintro e' w' ⟨v, rfl, hS⟩
      exact hS

theorem afun_sound' (hΓ : Γ.Sound P) (hyl : Γ.yl = []) (hm : P.follows .mixedOrders = true) {an : Ann} {f : FuncId} {fn : Func} (hf : P.funcs[f]? = some fn) (hn : (fn.name == "runtime.NumGoroutine") = false) (hbody : fn.body.isSome = true) {ps rs : List (Bool × K)} {share : Bool}
    {model : PDen ps → Option (PDen rs)} (hmod : (fun x => afun P Γ an fn ps rs share x) = model) : (CS.mk ps rs share model).Sound P f := by
  obtain ⟨c, hc⟩ := Option.isSome_iff_exists.1 hbody
  exact afun_sound hΓ hyl hm hf hn hc (fun x y h => by rw [← hmod] at h; exact h)

theorem aInl_sound' (hΓ : Γ.Sound P) (hm : P.follows .mixedOrders = true) {an : Ann} {f : FuncId} {fn : Func} (hf : P.funcs[f]? = some fn) (hn : (fn.name == "runtime.NumGoroutine") = false) (hbody : fn.body.isSome = true) (hi : (Γ.imm.any fun i => Nat.ble 300000 i) = false := by rfl) : (aInl P Γ an fn).Sound P f := by
  obtain ⟨c, hc⟩ := Option.isSome_iff_exists.1 hbody
  exact aInl_sound hΓ hm hf hn hc hi
end
end Go.Proofs.AM
end

section
namespace Go.Proofs.AM
open Go Go.RowKit

inductive M where
  | d
  | p (a b : M)
  | s (T : TypeId)

def encM (fr : Bool) : M → Nat → (k : K) → k.den → List AV × List AObj
  | .p a b, n, .pair ka kb, x => ((encM fr a n ka x.1).1 ++ (encM fr b (n + (encM fr a n ka x.1).2.length) kb x.2).1, (encM fr a n ka x.1).2 ++ (encM fr b (n + (encM fr a n ka x.1).2.length) kb x.2).2)
  | .s T, n, .sl k, x => ([.vf n], [.vec T k x fr])
  | _, _, k, x => (K.cells fr k x, [])

def decM (h : Heap) (nf : Bool) : M → (k : K) → List AV → Option (k.den × List (Option Nat × Nat) × List AV)
  | .p a b, .pair ka kb, l => match decM h nf a ka l with
    | some (x, ls, l1) => match decM h nf b kb l1 with
      | some (y, ls', l2) => some ((x, y), ls ++ ls', l2)
      | none => none
    | none => none
  | .s T, .sl k, a :: l => match decV h T k nf a with
    | some (x, o) => some (x, [(o, k.size)], l)
    | none => none
  | .d, k, l => match K.ofs h false k l with
    | some (x, f, l2) => if (!nf || f) = true then some (x, [], l2) else none
    | none => none
  | _, _, _ => none

def rdM (w : World) (N : Nat → Prop) : M → (k : K) → k.den → List Value → List Bl → Prop
  | .p a b, .pair ka kb, x, cs, δ => ∃ c d δ1 δ2, cs = c ++ d ∧ δ = δ1 ++ δ2 ∧ rdM w N a ka x.1 c δ1 ∧ rdM w N b kb x.2 d δ2
  | .s T, .sl k, x, cs, δ => ∃ r A c, δ = [r] ∧ cs = [.slice A r.n c] ∧ r.n ≤ c ∧ r.slice A 0 r.n c ∧ (AObj.vec T k x false).R w N N [] r
  | .d, k, x, cs, δ => δ = [] ∧ k.rd w N x cs
  | _, _, _, _, _ => False

def valM (w : World) (N : Nat → Prop) (p : Bool × K) (m : M) (x : p.2.den) (v : Value) (δ : List Bl) : Prop :=
  match p.1 with
  | true => ∃ cs : List Value, v = .agg cs.toArray ∧ rdM w N m p.2 x cs δ
  | false => rdM w N m p.2 x [v] δ

def argsM (w : World) (N : Nat → Prop) : (rs : List (Bool × K)) → List M → PDen rs → List Value → List Bl → Prop
  | [], [], _, vs, δ => vs = [] ∧ δ = []
  | p :: rs, m :: ms, x, vs, δ => ∃ v vs' δ1 δ2, vs = v :: vs' ∧ δ = δ1 ++ δ2 ∧ valM w N p m x.1 v δ1 ∧ argsM w N rs ms x.2 vs' δ2
  | _, _, _, _, _ => False

def resM (w : World) (N : Nat → Prop) (rs : List (Bool × K)) (ms : List M) (y : PDen rs) (v : Value) (δ : List Bl) : Prop :=
  ∃ vs : List Value, v = (if h : vs.toArray.size = 1 then vs.toArray[0] else .tuple vs.toArray) ∧ argsM w N rs ms y vs δ

def encMs (fr : Bool) : (rs : List (Bool × K)) → List M → Nat → PDen rs → List (Bool × List AV) × List AObj
  | [], _, _, _ => ([], [])
  | p :: rs, [], n, x => ((p.1, K.cells fr p.2 x.1) :: (encMs fr rs [] n x.2).1, (encMs fr rs [] n x.2).2)
  | p :: rs, m :: ms, n, x => ((p.1, (encM fr m n p.2 x.1).1) :: (encMs fr rs ms (n + (encM fr m n p.2 x.1).2.length) x.2).1, (encM fr m n p.2 x.1).2 ++ (encMs fr rs ms (n + (encM fr m n p.2 x.1).2.length) x.2).2)

def resTV : List (Bool × List AV) → TV
  | [(b, cs)] => (shapeTV b cs).getD (.one .junk)
  | l => .tup l

def cellsOfT : Bool → TV → Option (List AV)
  | true, .agg cs => some cs
  | false, .one a => some [a]
  | _, _ => none

def decMs (h : Heap) (nf : Bool) : (rs : List (Bool × K)) → List M → List TV → Option (PDen rs × List (Option Nat × Nat))
  | [], [], [] => some ((), [])
  | p :: rs, m :: ms, t :: ts => match cellsOfT p.1 t with
    | some cs => match decM h nf m p.2 cs, decMs h nf rs ms ts with
      | some (x, ls, []), some (y, ls') => some ((x, y), ls ++ ls')
      | _, _ => none
    | none => none
  | _, _, _ => none

structure OM where
  ps : List (Bool × K)
  rs : List (Bool × K)
  ms : List M
  share : Bool
  model : PDen ps → Option (PDen rs)

def Apart (δ : List Bl) : Prop := ∀ (i j : Nat) (ri rj : Bl), δ[i]? = some ri → δ[j]? = some rj → ri.real = true → rj.real = true → ri.blk = rj.blk → i = j

def OM.Sound (P : Program) (f : FuncId) (c : OM) : Prop :=
  (∀ args w, (callFunc f args).run P w = .ok (.enter f args) w) ∧
  ∀ (x : PDen c.ps) (y : PDen c.rs), c.model x = some y → ∀ (w : World) (N : Nat → Prop) (args : List Value), (∀ b, N b → b < w.heap.size) → argsR w N c.ps x args →
    Calls P f args.toArray w fun e w' => ∃ v δ, e = .returned v ∧ Grew w w' ∧ (∀ r ∈ δ, r.real = true → w.heap.size ≤ r.blk ∧ r.blk < w'.heap.size) ∧ Apart δ ∧
      resM w' (fun b => ((c.share = true ∧ N b) ∨ (w.heap.size ≤ b ∧ b < w'.heap.size)) ∧ ∀ r ∈ δ, r.real = true → b ≠ r.blk) c.rs c.ms y v δ

def afinM (P : Program) (fn : Func) (rs : List (Bool × K)) (ms : List M) (share : Bool) (s : AS) : Option (PDen rs) :=
  match aresults P s fn.results.toList with
  | some ts => match decMs s.heap (!share) rs ms ts with
    | some (y, ls) => if nodupO (ls.map (·.1)) = true then some y else none
    | none => none
  | none => none

noncomputable def afunM (P : Program) (Γ : Env) (an : Ann) (fn : Func) (ps rs : List (Bool × K)) (ms : List M) (share : Bool) (x : PDen ps) : Option (PDen rs) :=
  match fn.body with
  | none => none
  | some c => arun P Γ an c (PDen rs) none 0 (ainit fn ps x) { norm := aend (afinM P fn rs ms share), exit := fun _ _ => none, ret := aend (afinM P fn rs ms share) }

def OM.hd (c : OM) : HD where
  X := PDen c.ps × Bool
  Y := PDen c.rs
  dec h ts := adec h (!c.share) c.ps ts
  model x := c.model x.1
  out h _ x y := (h ++ (encMs (!c.share || x.2) c.rs c.ms h.length y).2.map fun o => (true, o), resTV (encMs (!c.share || x.2) c.rs c.ms h.length y).1)
  push := true
  pushes := fun _ _ _ _ _ => ⟨_, rfl⟩
  two := fun _ => ⟨fun h h' ts x hs e => adec_two hs _ _ _ e, fun h h' ts x y hl => ⟨_, _, rfl, by rw [hl]⟩⟩

def recM (β : List Bl) (p : Option Nat × Nat) : Bl := match p.1 with
  | some l => (β[l]?).getD ⟨0, 0, p.2, 0, 0, false, none, []⟩
  | none => ⟨0, 0, p.2, 0, 0, false, none, []⟩

section
variable {P : Program} {C : Cx} {s : AS} {β : List Bl} {a : Act} {w : World}

def LsOK (s : AS) (β : List Bl) (ls : List (Option Nat × Nat)) : Prop := ∀ l z, (some l, z) ∈ ls → ∃ f T k xs fr, s.heap[l]? = some (f, .vec T k xs fr) ∧ l < β.length

theorem decM_sound (h : Rel C s β a w) {nf : Bool} {N1 : Nat → Prop} (hN1 : ∀ b, (if nf then C.fresh s.heap β w b else C.N s.heap β w b) → N1 b) : ∀ (m : M) (k : K) (cs : List AV) (vs : List Value) (x : k.den) (ls : List (Option Nat × Nat)) (rest : List AV),
    All2 (AV.R w (C.N s.heap β w) (C.fresh s.heap β w) β) cs vs → decM s.heap nf m k cs = some (x, ls, rest) →
    LsOK s β ls ∧ ∃ v1 v2, vs = v1 ++ v2 ∧ All2 (AV.R w (C.N s.heap β w) (C.fresh s.heap β w) β) rest v2 ∧ rdM w N1 m k x v1 (ls.map (recM β)) := by
  intro m
  induction m with
  | p ma mb iha ihb =>
    intro k cs vs x ls rest hc e
    cases k with
    | pair ka kb =>
      unfold decM at e
      split at e
      rotate_left
      · simp at e
      rename_i x1 ls1 l1 h1
      split at e
      rotate_left
      · simp at e
      rename_i x2 ls2 l2 h2
      simp only [Option.some.injEq, Prod.mk.injEq] at e
      obtain ⟨rfl, rfl, rfl⟩ := e
      obtain ⟨q1, v1, v2, rfl, r1, r2⟩ := iha ka cs vs x1 ls1 l1 hc h1
      obtain ⟨q2, v3, v4, rfl, r3, r4⟩ := ihb kb l1 v2 x2 ls2 l2 r1 h2
      refine ⟨fun l z hz => ?_, v1 ++ v3, v4, by simp, r3, v1, v3, ls1.map (recM β), ls2.map (recM β), rfl, by simp, r2, r4⟩
      rcases List.mem_append.1 hz with hz | hz
      · exact q1 l z hz
      · exact q2 l z hz
    | _ => simp [decM] at e
  | s T =>
    intro k cs vs x ls rest hc e
    cases k with
    | sl k =>
      match cs, vs, hc with
      | [], _, _ => simp [decM] at e
      | c :: cs, v :: vs, hc =>
        unfold decM at e
        split at e
        rotate_left
        · simp at e
        rename_i xs o hd
        simp only [Option.some.injEq, Prod.mk.injEq] at e
        obtain ⟨rfl, rfl, rfl⟩ := e
        have hv := hc.1
        rcases decV_some hd with ⟨rfl, rfl, rfl⟩ | ⟨l, fl, rfl, rfl, ho, hfl⟩
        · have hv : v = .slice none 0 0 := hv
          subst hv
          refine ⟨fun l z hz => by simp at hz, [_], vs, rfl, hc.2, ⟨0, 0, k.size, 0, 0, false, none, []⟩, none, 0, by simp [recM], rfl, Nat.le_refl _, .inr ⟨rfl, rfl⟩, rfl, rfl, Nat.le_refl _, rfl⟩
        · obtain ⟨ff, r, g1, g2, g3, g4, g5, g6⟩ := h.obj ho (by simp)
          obtain ⟨r', A, cc, q1, q2, q3, q4⟩ := hv
          rw [g2] at q1; cases q1
          refine ⟨fun l' z hz => by
            simp only [List.mem_singleton, Prod.mk.injEq, Option.some.injEq] at hz
            obtain ⟨rfl, _⟩ := hz
            exact ⟨ff, _, _, _, _, g1, (List.getElem?_eq_some_iff.1 g2).1⟩, [v], vs, rfl, hc.2, r, A, cc, by simp [recM, g2], by rw [q2], q3, q4, g3, g4, g5, ?_⟩
          by_cases hreal : r.real = true
          · simp only [hreal, if_true] at g6 ⊢
            obtain ⟨pre, mid, post, hh, hp, hrow, hcap⟩ := g6
            refine ⟨pre, mid, post, hh, hp, rows_weak (fun _ _ => rfl) (fun b hb => hN1 b ?_) hrow, hcap⟩
            cases nf with
            | true =>
              have : fl = true := by simpa using hfl
              subst this
              exact hb
            | false =>
              cases fl with
              | true => exact Cx.fresh_N hb
              | false => exact hb
          · simp only [hreal] at g6 ⊢
            exact g6
    | _ => cases cs <;> simp [decM] at e
  | d =>
    intro k cs vs x ls rest hc e
    have e' : (match K.ofs s.heap false k cs with
      | some (x, f, l2) => if (!nf || f) = true then some (x, ([] : List (Option Nat × Nat)), l2) else none
      | none => none) = some (x, ls, rest) := by
      cases k <;> first | exact e | (cases cs <;> exact e)
    clear e
    split at e'
    rotate_left
    · simp at e'
    rename_i x1 f l2 hk
    split at e'
    rotate_left
    · simp at e'
    rename_i hf
    simp only [Option.some.injEq, Prod.mk.injEq] at e'
    obtain ⟨rfl, rfl, rfl⟩ := e'
    obtain ⟨v1, v2, rfl, r1, r2⟩ := ofs_sound h false k cs vs _ _ _ hc hk
    refine ⟨fun l z hz => by simp at hz, v1, v2, rfl, r2, rfl, K.rd_mono (fun _ _ => rfl) (fun b hb => hN1 b ?_) _ _ _ r1⟩
    cases nf with
    | true =>
      have : f = true := by simpa using hf
      subst this
      exact hb
    | false =>
      cases f with
      | true => exact Cx.fresh_N hb
      | false => exact hb

theorem decMs_sound (h : Rel C s β a w) {nf : Bool} {N1 : Nat → Prop} (hN1 : ∀ b, (if nf then C.fresh s.heap β w b else C.N s.heap β w b) → N1 b) : ∀ (rs : List (Bool × K)) (ms : List M) (ts : List TV) (vs : List Value) (y : PDen rs) (ls : List (Option Nat × Nat)),
    All2 (TV.R w (C.N s.heap β w) (C.fresh s.heap β w) β) ts vs → decMs s.heap nf rs ms ts = some (y, ls) → LsOK s β ls ∧ argsM w N1 rs ms y vs (ls.map (recM β))
  | [], [], [], [], y, ls, _, e => by
    simp [decMs] at e
    subst e
    exact ⟨fun l z hz => by simp at hz, rfl, rfl⟩
  | p :: rs, m :: ms, t :: ts, v :: vs, y, ls, hc, e => by
    unfold decMs at e
    split at e
    rotate_left
    · simp at e
    rename_i cs hcs
    split at e
    rotate_left
    · simp at e
    rename_i x1 ls1 y1 ls2 h1 h2
    simp only [Option.some.injEq, Prod.mk.injEq] at e
    obtain ⟨rfl, rfl⟩ := e
    obtain ⟨q2, r2⟩ := decMs_sound h hN1 rs ms ts vs y1 ls2 hc.2 h2
    have hv := hc.1
    obtain ⟨agg, k⟩ := p
    have key : ∃ us : List Value, All2 (AV.R w (C.N s.heap β w) (C.fresh s.heap β w) β) cs us ∧ ((agg = true ∧ v = .agg us.toArray) ∨ (agg = false ∧ us = [v])) := by
      cases agg with
      | true =>
        cases t with
        | agg cs' =>
          simp only [cellsOfT, Option.some.injEq] at hcs; subst hcs
          obtain ⟨us, rfl, hu⟩ := hv
          exact ⟨us, hu, .inl ⟨rfl, rfl⟩⟩
        | _ => simp [cellsOfT] at hcs
      | false =>
        cases t with
        | one a' =>
          simp only [cellsOfT, Option.some.injEq] at hcs; subst hcs
          exact ⟨[v], ⟨hv, trivial⟩, .inr ⟨rfl, rfl⟩⟩
        | _ => simp [cellsOfT] at hcs
    obtain ⟨us, hu, hcase⟩ := key
    obtain ⟨q1, v1, v2, e12, r1, r3⟩ := decM_sound h hN1 m k cs us x1 ls1 [] hu h1
    match v2, r1 with
    | [], _ =>
      simp only [List.append_nil] at e12
      subst e12
      refine ⟨fun l z hz => ?_, v, vs, ls1.map (recM β), ls2.map (recM β), rfl, by simp, ?_, r2⟩
      · rcases List.mem_append.1 hz with hz | hz
        · exact q1 l z hz
        · exact q2 l z hz
      · rcases hcase with ⟨rfl, rfl⟩ | ⟨rfl, rfl⟩
        · exact ⟨us, rfl, r3⟩
        · exact r3
  | [], [], [], _ :: _, _, _, h, _ => h.elim
  | [], [], _ :: _, _, _, _, _, e => by simp [decMs] at e
  | [], _ :: _, _, _, _, _, _, e => by simp [decMs] at e
  | _ :: _, [], _, _, _, _, _, e => by simp [decMs] at e
  | _ :: _, _ :: _, [], _, _, _, _, e => by simp [decMs] at e
  | _ :: _, _ :: _, _ :: _, [], _, _, h, _ => h.elim

theorem nodupO_idx : ∀ {l : List (Option Nat)}, nodupO l = true → ∀ {i j : Nat} {x : Nat}, l[i]? = some (some x) → l[j]? = some (some x) → i = j
  | [], _, _, _, _, h, _ => by simp at h
  | none :: r, hn, i, j, x, h1, h2 => by
    cases i with
    | zero => simp at h1
    | succ i => cases j with
      | zero => simp at h2
      | succ j => exact congrArg (· + 1) (nodupO_idx (l := r) (by simpa [nodupO] using hn) (by simpa using h1) (by simpa using h2))
  | some y :: r, hn, i, j, x, h1, h2 => by
    simp only [nodupO, Bool.and_eq_true, Bool.not_eq_true', List.contains_eq_mem, decide_eq_false_iff_not] at hn
    have mem : ∀ k, r[k]? = some (some y) → False := fun k hk => hn.1 (List.mem_of_getElem? hk)
    cases i with
    | zero => cases j with
      | zero => rfl
      | succ j =>
        simp only [List.getElem?_cons_zero, Option.some.injEq] at h1
        subst h1
        exact (mem j (by simpa using h2)).elim
    | succ i => cases j with
      | zero =>
        simp only [List.getElem?_cons_zero, Option.some.injEq] at h2
        subst h2
        exact (mem i (by simpa using h1)).elim
      | succ j => exact congrArg (· + 1) (nodupO_idx (l := r) hn.2 (by simpa using h1) (by simpa using h2))

theorem recM_real {ls : List (Option Nat × Nat)} (hls : LsOK s β ls) {i : Nat} {r : Bl} (hi : (ls.map (recM β))[i]? = some r) (hr : r.real = true) : ∃ l f T k xs fr, (ls.map (·.1))[i]? = some (some l) ∧ s.heap[l]? = some (f, .vec T k xs fr) ∧ β[l]? = some r := by
  rw [List.getElem?_map] at hi
  obtain ⟨p, hp, rfl⟩ := Option.map_eq_some_iff.1 hi
  obtain ⟨o, z⟩ := p
  cases o with
  | none => simp [recM] at hr
  | some l =>
    obtain ⟨f, T, k, xs, fr, h1, h2⟩ := hls l z (List.mem_of_getElem? hp)
    exact ⟨l, f, T, k, xs, fr, by simp [List.getElem?_map, hp], h1, by simp [recM, List.getElem?_eq_getElem h2]⟩

variable {Γ : Env}

theorem afunM_sound (hΓ : Γ.Sound P) (hyl : Γ.yl = []) (hm : P.follows .mixedOrders = true) {an : Ann} {f : FuncId} {fn : Func} (hf : P.funcs[f]? = some fn) (hn : (fn.name == "runtime.NumGoroutine") = false) {c : OM} {code : Code} (hbody : fn.body = some code)
    (hmod : ∀ x y, c.model x = some y → afunM P Γ an fn c.ps c.rs c.ms c.share x = some y) : c.Sound P f := by
  refine ⟨fun args w => ?_, fun x y hxy w N args hN hargs => ?_⟩
  · have h1 : fn.name ≠ "runtime.NumGoroutine" := by simpa using hn
    simp [callFunc, hf, h1, hbody, mark]
  · have e := hmod x y hxy
    simp only [afunM, hbody] at e
    refine ((body_core hΓ hm hf hbody (init_rel hN hargs) rfl rfl hyl (fun _ _ h => h) e (S := fun v w' => ∃ δ, Grew w w' ∧ (∀ r ∈ δ, r.real = true → w.heap.size ≤ r.blk ∧ r.blk < w'.heap.size) ∧ Apart δ ∧
      resM w' (fun b => ((c.share = true ∧ N b) ∨ (w.heap.size ≤ b ∧ b < w'.heap.size)) ∧ ∀ r ∈ δ, r.real = true → b ≠ r.blk) c.rs c.ms y v δ) ?_)).mono ?_
    · intro s β a w' hG h _
      unfold afinM at hG
      split at hG
      rotate_left
      · simp at hG
      rename_i ts hts
      obtain ⟨vs, e1, e2⟩ := aresults_sound h hts
      split at hG
      rotate_left
      · simp at hG
      rename_i y' ls hd
      split at hG
      rotate_left
      · simp at hG
      rename_i hnd
      simp only [Option.some.injEq] at hG
      subst hG
      have main := decMs_sound h (nf := !c.share) (N1 := fun b => ((c.share = true ∧ N b) ∨ (w.heap.size ≤ b ∧ b < w'.heap.size)) ∧ ∀ r ∈ ls.map (recM β), r.real = true → b ≠ r.blk) ?_ c.rs c.ms ts vs y' ls e2 hd
      · obtain ⟨hls, hres⟩ := main
        refine ⟨_, results_run e1, ls.map (recM β), ⟨h.keep.os, h.keep.tape, h.keep.output, h.keep.size, fun b hb => h.keep.block b hb id, h.keep.drawn⟩, fun r hr hreal => ?_, fun i j ri rj hi hj hri hrj hbb => ?_, vs, rfl, hres⟩
        · obtain ⟨i, hi⟩ := List.mem_iff_getElem?.1 hr
          obtain ⟨l, f, T, k, xs, fr, _, g1, g2⟩ := recM_real hls hi hreal
          have := h.occ l _ r r.blk g1 g2 (by simp [AObj.occ, hreal])
          exact ⟨this.2.resolve_right id, this.1⟩
        · obtain ⟨l, f, T, k, xs, fr, q1, g1, g2⟩ := recM_real hls hi hri
          obtain ⟨l', f', T', k', xs', fr', q1', g1', g2'⟩ := recM_real hls hj hrj
          have := h.apart l l' _ _ ri rj ri.blk g1 g2 g1' g2' (by simp [AObj.occ, hri]) (by simp [AObj.occ, hrj, hbb])
          subst this
          exact nodupO_idx hnd q1 q1'
      · intro b hb
        have key : (w.heap.size ≤ b ∨ (c.share = true ∧ N b)) ∧ b < w'.heap.size ∧ Free s.heap β b := by
          cases hsh : c.share with
          | false =>
            rw [hsh] at hb
            exact ⟨.inl hb.1, hb.2.1, hb.2.2⟩
          | true =>
            rw [hsh] at hb
            rcases hb.1 with h1 | h1
            · exact ⟨.inr ⟨rfl, h1⟩, hb.2.1, hb.2.2⟩
            · exact ⟨.inl h1, hb.2.1, hb.2.2⟩
        refine ⟨?_, fun r hr hreal hbb => ?_⟩
        · rcases key.1 with h1 | h1
          · exact .inr ⟨h1, key.2.1⟩
          · exact .inl h1
        · have hlsok := (decMs_sound h (nf := !c.share) (N1 := fun _ => True) (fun _ _ => trivial) c.rs c.ms ts vs y' ls e2 hd).1
          obtain ⟨i, hi⟩ := List.mem_iff_getElem?.1 hr
          obtain ⟨l, f, T, k, xs, fr, _, g1, g2⟩ := recM_real hlsok hi hreal
          exact key.2.2 l _ r g1 g2 (by simp [AObj.occ, hreal, hbb])
    · rintro e' w' ⟨v, rfl, δ, h1, h2, h3, h4⟩
      exact ⟨v, δ, rfl, h1, h2, h3, h4⟩

theorem afunM_sound' (hΓ : Γ.Sound P) (hyl : Γ.yl = []) (hm : P.follows .mixedOrders = true) {an : Ann} {f : FuncId} {fn : Func} (hf : P.funcs[f]? = some fn) (hn : (fn.name == "runtime.NumGoroutine") = false) (hbody : fn.body.isSome = true) {ps rs : List (Bool × K)} {ms : List M} {share : Bool}
    {model : PDen ps → Option (PDen rs)} (hmod : (fun x => afunM P Γ an fn ps rs ms share x) = model) : (OM.mk ps rs ms share model).Sound P f := by
  obtain ⟨c, hc⟩ := Option.isSome_iff_exists.1 hbody
  exact afunM_sound hΓ hyl hm hf hn hc (fun x y h => by rw [← hmod] at h; exact h)
end

section
variable {w : World} {N : Nat → Prop}

def Handed (w : World) (N : Nat → Prop) (fr : Bool) (o : AObj) (r : Bl) : Prop := ∃ T k x, o = .vec T k x fr ∧ (AObj.vec T k x false).R w N N [] r

theorem rdM_enc (fr : Bool) : ∀ (m : M) (k : K) (x : k.den) (cs : List Value) (δ : List Bl) (n : Nat), rdM w N m k x cs δ →
    (encM fr m n k x).2.length = δ.length ∧ (∀ (i : Nat) (o : AObj) (r : Bl), (encM fr m n k x).2[i]? = some o → δ[i]? = some r → Handed w N fr o r) ∧
    ∀ (N1 Nf1 : Nat → Prop) (β : List Bl), (∀ b, N b → (if fr then Nf1 else N1) b) → (∀ (i : Nat) (r : Bl), δ[i]? = some r → β[n + i]? = some r) → All2 (AV.R w N1 Nf1 β) (encM fr m n k x).1 cs := by
  intro m
  induction m with
  | p ma mb iha ihb =>
    intro k x cs δ n h
    cases k with
    | pair ka kb =>
      obtain ⟨c, d, δ1, δ2, rfl, rfl, h1, h2⟩ := h
      obtain ⟨l1, o1, a1⟩ := iha ka x.1 c δ1 n h1
      obtain ⟨l2, o2, a2⟩ := ihb kb x.2 d δ2 (n + δ1.length) h2
      unfold encM
      rw [l1]
      refine ⟨by simp [l1, l2], fun i o r ho hr => ?_, fun N1 Nf1 β hN hβ => (a1 N1 Nf1 β hN fun i r hi => hβ i r (get_app hi)).app (a2 N1 Nf1 β hN fun i r hi => ?_)⟩
      · by_cases hi : i < δ1.length
        · rw [List.getElem?_append_left (by rw [l1]; exact hi)] at ho
          rw [List.getElem?_append_left hi] at hr
          exact o1 i o r ho hr
        · rw [List.getElem?_append_right (by rw [l1]; omega)] at ho
          rw [List.getElem?_append_right (by omega)] at hr
          rw [l1] at ho
          exact o2 _ o r ho hr
      · rw [Nat.add_assoc]
        exact hβ _ r (by rw [List.getElem?_append_right (by omega)]; simpa using hi)
    | _ => exact h.elim
  | s T =>
    intro k x cs δ n h
    cases k with
    | sl k =>
      obtain ⟨r, A, c, rfl, rfl, h1, h2, h3⟩ := h
      unfold encM
      refine ⟨rfl, fun i o r' ho hr => ?_, fun N1 Nf1 β hN hβ => ⟨⟨r, A, c, by simpa using hβ 0 r rfl, rfl, h1, h2⟩, trivial⟩⟩
      cases i with
      | zero =>
        simp only [List.getElem?_cons_zero, Option.some.injEq] at ho hr
        subst ho; subst hr
        exact ⟨T, k, x, rfl, h3⟩
      | succ i => simp at ho
    | _ => exact h.elim
  | d =>
    intro k x cs δ n h
    have h' : δ = [] ∧ k.rd w N x cs := by cases k <;> exact h
    have he : encM fr .d n k x = (K.cells fr k x, []) := by cases k <;> rfl
    obtain ⟨rfl, h2⟩ := h'
    rw [he]
    refine ⟨rfl, fun i o r ho _ => by simp at ho, fun N1 Nf1 β hN _ => K.cells_R fr k x cs (K.rd_mono (fun _ _ => rfl) hN k x cs h2)⟩

theorem argsM_enc (fr : Bool) : ∀ (rs : List (Bool × K)) (ms : List M) (y : PDen rs) (vs : List Value) (δ : List Bl) (n : Nat), argsM w N rs ms y vs δ →
    (encMs fr rs ms n y).2.length = δ.length ∧ (∀ (i : Nat) (o : AObj) (r : Bl), (encMs fr rs ms n y).2[i]? = some o → δ[i]? = some r → Handed w N fr o r) ∧
    ∀ (N1 Nf1 : Nat → Prop) (β : List Bl), (∀ b, N b → (if fr then Nf1 else N1) b) → (∀ (i : Nat) (r : Bl), δ[i]? = some r → β[n + i]? = some r) → All2 (compR w N1 Nf1 β) (encMs fr rs ms n y).1 vs
  | [], [], _, vs, δ, n, h => by
    obtain ⟨rfl, rfl⟩ := h
    exact ⟨rfl, fun i o r ho _ => by simp [encMs] at ho, fun _ _ _ _ _ => trivial⟩
  | p :: rs, m :: ms, y, vs, δ, n, h => by
    obtain ⟨v, vs', δ1, δ2, rfl, rfl, hv, h2⟩ := h
    obtain ⟨agg, k⟩ := p
    have key : ∃ cs, rdM w N m k y.1 cs δ1 ∧ ((agg = true ∧ v = .agg cs.toArray) ∨ (agg = false ∧ cs = [v])) := by
      cases agg with
      | true => obtain ⟨cs, rfl, h⟩ := hv; exact ⟨cs, h, .inl ⟨rfl, rfl⟩⟩
      | false => exact ⟨[v], hv, .inr ⟨rfl, rfl⟩⟩
    obtain ⟨cs, hcs, hcase⟩ := key
    obtain ⟨l1, o1, a1⟩ := rdM_enc fr m k y.1 cs δ1 n hcs
    obtain ⟨l2, o2, a2⟩ := argsM_enc fr rs ms y.2 vs' δ2 (n + δ1.length) h2
    unfold encMs
    rw [l1]
    refine ⟨by simp [l1, l2], fun i o r ho hr => ?_, fun N1 Nf1 β hN hβ => ⟨?_, a2 N1 Nf1 β hN fun i r hi => ?_⟩⟩
    · by_cases hi : i < δ1.length
      · rw [List.getElem?_append_left (by rw [l1]; exact hi)] at ho
        rw [List.getElem?_append_left hi] at hr
        exact o1 i o r ho hr
      · rw [List.getElem?_append_right (by rw [l1]; omega)] at ho
        rw [List.getElem?_append_right (by omega)] at hr
        rw [l1] at ho
        exact o2 _ o r ho hr
    · have := a1 N1 Nf1 β hN fun i r hi => hβ i r (get_app hi)
      rcases hcase with ⟨rfl, rfl⟩ | ⟨rfl, rfl⟩
      · exact ⟨cs, rfl, this⟩
      · show compR w N1 Nf1 β (false, (encM fr m n k y.1).1) v
        generalize (encM fr m n k y.1).1 = cc at this
        match cc, this with
        | [c], this => exact this.1
    · rw [Nat.add_assoc]
      exact hβ _ r (by rw [List.getElem?_append_right (by omega)]; simpa using hi)
  | [], _ :: _, _, _, _, _, h => h.elim
  | _ :: _, [], _, _, _, _, h => h.elim

theorem resTV_R {N1 Nf1 : Nat → Prop} {β : List Bl} : ∀ {l : List (Bool × List AV)} {vs : List Value}, All2 (compR w N1 Nf1 β) l vs → (resTV l).R w N1 Nf1 β (if h : vs.toArray.size = 1 then vs.toArray[0] else .tuple vs.toArray)
  | [], [], _ => ⟨[], by simp, trivial⟩
  | [(b, cs)], [v], h => by
    have h := h.1
    simp only [List.size_toArray, List.length_singleton]
    show TV.R w N1 Nf1 β ((shapeTV b cs).getD (.one .junk)) v
    cases b with
    | true => exact h
    | false =>
      match cs, h with
      | [c], h => exact h
  | c :: d :: l, v :: u :: vs, h => ⟨v :: u :: vs, by simp, h⟩
  | [_], _ :: _ :: _, h => h.2.elim
  | _ :: _ :: _, [_], h => h.2.elim
  | [], _ :: _, h => h.elim
  | _ :: _, [], h => h.elim
end

theorem OM.Sound.hd {P : Program} {f : FuncId} {c : OM} (hc : c.Sound P f) : c.hd.Sound P f := by
  refine ⟨hc.1, fun x y hxy C s β a w ts vs h hvs hdec => ?_⟩
  obtain ⟨x, fr⟩ := x
  have hy1 : c.model x = some y := hxy
  have hdec : adec s.heap (!c.share) c.ps ts = some (x, fr) := hdec
  have hargs := adec_sound h hvs hdec
  refine (hc.2 x y hy1 w _ vs (fun b hb => ?_) hargs).mono ?_
  · revert hb; cases c.share <;> cases fr <;> intro hb <;> first | exact hb.2.1 | exact hb.2
  · rintro e' w' ⟨v, δ, rfl, hg, q1, q2, us, rfl, q3⟩
    have hk := h.keep.size
    obtain ⟨e1, e2, e3⟩ := argsM_enc (!c.share || fr) c.rs c.ms y us δ s.heap.length q3
    generalize hobj : (encMs (!c.share || fr) c.rs c.ms s.heap.length y).2 = objs at e1 e2
    have hnew : ∀ (l : Nat) (o : Bool × AObj) (r : Bl), (s.heap ++ objs.map fun o => (true, o))[l]? = some o → (β ++ δ)[l]? = some r → s.heap.length ≤ l → ∃ i, l = s.heap.length + i ∧ δ[i]? = some r ∧ Handed w' (fun b => ((c.share = true ∧ Dec C s β w (!c.share) fr b) ∨ (w.heap.size ≤ b ∧ b < w'.heap.size)) ∧ ∀ r ∈ δ, r.real = true → b ≠ r.blk) (!c.share || fr) o.2 r := by
      intro l o r h1 h2 h3
      rw [List.getElem?_append_right h3] at h1
      rw [List.getElem?_append_right (by rw [h.bsize]; exact h3)] at h2
      rw [List.getElem?_map] at h1
      obtain ⟨o', ho', rfl⟩ := Option.map_eq_some_iff.1 h1
      rw [h.bsize] at h2
      exact ⟨l - s.heap.length, by omega, h2, e2 _ _ _ ho' h2⟩
    have hocc : ∀ (o : AObj) (r : Bl) (b : Nat) (Nx : Nat → Prop), Handed w' Nx (!c.share || fr) o r → b ∈ o.occ r → r.real = true ∧ b = r.blk := by
      rintro o r b Nx ⟨T, k, xx, rfl, _⟩ hb
      simp only [AObj.occ] at hb
      split at hb
      · rename_i hreal; exact ⟨hreal, by simpa using hb⟩
      · simp at hb
    have free : ∀ b, b < w.heap.size → Free s.heap β b → Free (s.heap ++ objs.map fun o => (true, o)) (β ++ δ) b := fun b hb hf l o rr g1 g2 hx => by
      by_cases hl : l < s.heap.length
      · rw [List.getElem?_append_left hl] at g1
        rw [List.getElem?_append_left (by rw [h.bsize]; exact hl)] at g2
        exact hf l o rr g1 g2 hx
      · obtain ⟨i, rfl, hi, hh⟩ := hnew l o rr g1 g2 (by omega)
        obtain ⟨hr, rfl⟩ := hocc o.2 rr b _ hh hx
        have := (q1 rr (List.mem_of_getElem? hi) hr).1
        omega
    have k2 : ∀ b, C.N s.heap β w b → C.N (s.heap ++ objs.map fun o => (true, o)) (β ++ δ) w' b := fun b hb => ⟨hb.1, by have := hb.2.1; have := hg.size; omega, free b hb.2.1 hb.2.2⟩
    have k3 : ∀ b, C.fresh s.heap β w b → C.fresh (s.heap ++ objs.map fun o => (true, o)) (β ++ δ) w' b := fun b hb => ⟨hb.1, by have := hb.2.1; have := hg.size; omega, free b hb.2.1 hb.2.2⟩
    have reach : ∀ b, (((c.share = true ∧ Dec C s β w (!c.share) fr b) ∨ (w.heap.size ≤ b ∧ b < w'.heap.size)) ∧ ∀ r ∈ δ, r.real = true → b ≠ r.blk) →
        (if (!c.share || fr) = true then C.fresh (s.heap ++ objs.map fun o => (true, o)) (β ++ δ) w' b else C.N (s.heap ++ objs.map fun o => (true, o)) (β ++ δ) w' b) := by
      rintro b ⟨hb, hne⟩
      have hfr : w.heap.size ≤ b → b < w'.heap.size → C.fresh (s.heap ++ objs.map fun o => (true, o)) (β ++ δ) w' b := fun h1 h2 => by
        refine ⟨by omega, h2, fun l o rr g1 g2 hx => ?_⟩
        by_cases hl : l < s.heap.length
        · rw [List.getElem?_append_left hl] at g1
          rw [List.getElem?_append_left (by rw [h.bsize]; exact hl)] at g2
          have := (h.occ l o rr b g1 g2 hx).1; omega
        · obtain ⟨i, rfl, hi, hh⟩ := hnew l o rr g1 g2 (by omega)
          obtain ⟨hr, hb'⟩ := hocc o.2 rr b _ hh hx
          exact hne rr (List.mem_of_getElem? hi) hr hb'
      cases hsh : c.share with
      | false =>
        simp only [Bool.not_false, Bool.true_or, if_true]
        rcases hb with hb | hb
        · rw [hsh] at hb; simp at hb
        · exact hfr hb.1 hb.2
      | true =>
        rw [hsh] at hb
        simp only [Bool.not_true, true_and, Bool.false_or] at hb ⊢
        cases fr with
        | true =>
          simp only [if_true]
          rcases hb with hb | hb
          · exact k3 b hb
          · exact hfr hb.1 hb.2
        | false =>
          simp only [Bool.false_eq_true, if_false]
          rcases hb with hb | hb
          · exact k2 b hb
          · exact Cx.fresh_N (hfr hb.1 hb.2)
    have hgen := h.gen (hdr := hg.drawn) (s.heap ++ objs.map fun o => (true, o)) δ w' (fun _ => False) hg.os hg.tape hg.output hg.size (by simp [e1]) (fun l o h _ => ⟨o, get_app h, rfl⟩) (fun l _ h => get_app h) (fun b hb _ => hg.block b hb)
      (fun l o r b h1 h2 h3 hx => by
        obtain ⟨i, rfl, hi, hh⟩ := hnew l o r h1 h2 (h3.resolve_left id)
        obtain ⟨hr, rfl⟩ := hocc o.2 r b _ hh hx
        have := q1 r (List.mem_of_getElem? hi) hr
        exact ⟨this.2, .inl this.1⟩)
      (fun l l' o o' r r' b h1 h2 h1' h2' h3 h3' hx hx' => by
        obtain ⟨i, rfl, hi, hh⟩ := hnew l o r h1 h2 (h3.resolve_left id)
        obtain ⟨i', rfl, hi', hh'⟩ := hnew l' o' r' h1' h2' (h3'.resolve_left id)
        obtain ⟨hr, rfl⟩ := hocc o.2 r b _ hh hx
        obtain ⟨hr', hb⟩ := hocc o'.2 r' _ _ hh' hx'
        rw [q2 i i' r r' hi hi' hr hr' hb])
      (fun l o r h1 h2 h3 _ _ _ _ => by
        obtain ⟨i, rfl, hi, T, k, xx, ho, hR⟩ := hnew l o r h1 h2 (h3.resolve_left id)
        obtain ⟨ob, oo⟩ := o
        subst ho
        obtain ⟨p1, p2, p3, p4⟩ := hR
        refine ⟨p1, p2, p3, ?_⟩
        by_cases hreal : r.real = true
        · simp only [hreal, if_true] at p4 ⊢
          obtain ⟨pre, mid, post, hh, hp, hrow, hcap⟩ := p4
          refine ⟨pre, mid, post, hh, hp, rows_weak (fun _ _ => rfl) (fun b hb => ?_) hrow, hcap⟩
          have := reach b hb
          by_cases hg : (!c.share || fr) = true
          · rw [if_pos hg] at this ⊢; exact this
          · rw [if_neg hg] at this ⊢; exact this
        · simp only [hreal] at p4 ⊢
          exact p4)
    obtain ⟨h2, mv⟩ := hgen
    refine ⟨_, β ++ δ, rfl, ?_, ?_, ⟨δ, rfl⟩, ?_, fun l o hl ho => ?_, fun l hl => ?_⟩
    · show Rel C { s with heap := s.heap ++ (encMs (!c.share || fr) c.rs c.ms s.heap.length y).2.map fun o => (true, o) } (β ++ δ) a w'
      rw [hobj]; exact h2
    · have := resTV_R (e3 (C.N (s.heap ++ objs.map fun o => (true, o)) (β ++ δ) w') (C.fresh (s.heap ++ objs.map fun o => (true, o)) (β ++ δ) w') (β ++ δ) (fun b hb => by
        have := reach b hb
        by_cases hg : (!c.share || fr) = true
        · rw [if_pos hg] at this ⊢; exact this
        · rw [if_neg hg] at this ⊢; exact this) fun i r hi => by rw [← h.bsize, List.getElem?_append_right (by omega)]; simpa using hi)
      show TV.R w' (C.N (s.heap ++ (encMs (!c.share || fr) c.rs c.ms s.heap.length y).2.map fun o => (true, o)) (β ++ δ) w') (C.fresh (s.heap ++ (encMs (!c.share || fr) c.rs c.ms s.heap.length y).2.map fun o => (true, o)) (β ++ δ) w') (β ++ δ) _ _
      rw [hobj]
      exact this
    · show _ ≤ (s.heap ++ _).length; simp
    · have ho : (s.heap ++ (encMs (!c.share || fr) c.rs c.ms s.heap.length y).2.map fun o => (true, o))[l]? = some (false, o) := ho
      rwa [List.getElem?_append_left hl] at ho
    · exact get_app hl
end Go.Proofs.AM
end

section
namespace Go.Proofs.AM
open Go Go.RowKit

theorem rdM_rd {w : World} {N N' : Nat → Prop} : ∀ (m : M) (k : K) (x : k.den) (cs : List Value) (δ : List Bl), (∀ b, N b → N' b) → (∀ r ∈ δ, r.real = true → N' r.blk) → rdM w N m k x cs δ → k.rd w N' x cs
  | .p a b, .pair ka kb, x, cs, δ, hN, hδ, h => by
    obtain ⟨c, d, δ1, δ2, rfl, rfl, h1, h2⟩ := h
    exact ⟨c, d, rfl, rdM_rd a ka _ _ _ hN (fun r hr => hδ r (by simp [hr])) h1, rdM_rd b kb _ _ _ hN (fun r hr => hδ r (by simp [hr])) h2⟩
  | .s T, .sl k, x, cs, δ, hN, hδ, h => by
    obtain ⟨r, A, c, rfl, rfl, hc, hs, h1, h2, h3, h4⟩ := h
    refine ⟨A, c, by rw [h1], by rw [← h1]; exact hc, ?_⟩
    rcases hs with ⟨hr, hA, _⟩ | ⟨h0, _⟩
    · right
      simp only [hr, if_true] at h4
      obtain ⟨pre, mid, post, hh, hp, hm, _⟩ := h4
      refine ⟨r.blk, r.base, mid, by rw [hA]; simp [Bl.addr], hδ r (by simp) hr, by rw [← hp]; exact cellsAt_block hh, ?_⟩
      exact rows.mono (fun a b hab => K.rd_mono (fun _ _ => rfl) hN _ _ _ hab) (by simpa using hm)
    · left; omega
  | .d, k, x, cs, δ, hN, _, h => K.rd_mono (fun _ _ => rfl) hN _ _ _ (by unfold rdM at h; exact h.2)
  | .p _ _, .int _, _, _, _, _, _, h => by simp [rdM] at h
  | .p _ _, .bool, _, _, _, _, _, h => by simp [rdM] at h
  | .p _ _, .str, _, _, _, _, _, h => by simp [rdM] at h
  | .p _ _, .unit, _, _, _, _, _, h => by simp [rdM] at h
  | .p _ _, .sl _, _, _, _, _, _, h => by simp [rdM] at h
  | .p _ _, .rp _, _, _, _, _, _, h => by simp [rdM] at h
  | .s _, .int _, _, _, _, _, _, h => by simp [rdM] at h
  | .s _, .bool, _, _, _, _, _, h => by simp [rdM] at h
  | .s _, .str, _, _, _, _, _, h => by simp [rdM] at h
  | .s _, .unit, _, _, _, _, _, h => by simp [rdM] at h
  | .s _, .pair _ _, _, _, _, _, _, h => by simp [rdM] at h
  | .s _, .rp _, _, _, _, _, _, h => by simp [rdM] at h

theorem argsM_args {w : World} {N N' : Nat → Prop} (hN : ∀ b, N b → N' b) : ∀ (rs : List (Bool × K)) (ms : List M) (y : PDen rs) (vs : List Value) (δ : List Bl), (∀ r ∈ δ, r.real = true → N' r.blk) → argsM w N rs ms y vs δ → argsR w N' rs y vs
  | [], [], y, vs, δ, _, h => h.1
  | p :: rs, m :: ms, y, vs, δ, hδ, h => by
    obtain ⟨v, vs', δ1, δ2, rfl, rfl, h1, h2⟩ := h
    refine ⟨v, vs', rfl, ?_, argsM_args hN rs ms y.2 vs' δ2 (fun r hr => hδ r (by simp [hr])) h2⟩
    obtain ⟨pa, pk⟩ := p
    cases pa with
    | true => obtain ⟨cs, e, h1⟩ := h1; exact ⟨cs, e, rdM_rd m _ _ _ _ hN (fun r hr => hδ r (by simp [hr])) h1⟩
    | false => exact rdM_rd m _ _ _ _ hN (fun r hr => hδ r (by simp [hr])) h1
  | [], _ :: _, _, _, _, _, h => h.elim
  | _ :: _, [], _, _, _, _, h => h.elim

theorem argsR_len {w : World} {N : Nat → Prop} : ∀ (rs : List (Bool × K)) (y : PDen rs) (vs : List Value), argsR w N rs y vs → vs.length = rs.length
  | [], _, vs, h => by have h : vs = [] := h; simp [h]
  | p :: rs, y, vs, h => by obtain ⟨v, vs', rfl, _, h2⟩ := h; simp [argsR_len rs _ _ h2]

theorem resR_ofM {w : World} {N : Nat → Prop} : ∀ (rs : List (Bool × K)) (y : PDen rs) (vs : List Value) (v : Value), v = (if h : vs.toArray.size = 1 then vs.toArray[0] else .tuple vs.toArray) → argsR w N rs y vs → resR w N rs y v
  | [], y, vs, v, hv, hargs => by
    have : vs = [] := hargs
    subst this
    exact ⟨[], by simpa using hv, hargs⟩
  | [p], y, vs, v, hv, hargs => by
    obtain ⟨v1, vs', rfl, h1, h2⟩ := hargs
    have : vs' = [] := h2
    subst this
    have : v = v1 := by simpa using hv
    subst this
    exact h1
  | p :: q :: rs, y, vs, v, hv, hargs => by
    have hlen := argsR_len _ _ _ hargs
    refine ⟨vs, ?_, hargs⟩
    rw [hv, dif_neg (by simp at hlen; simp; omega)]

theorem OM.Sound.cs {P : Program} {f : FuncId} {c : OM} (hc : c.Sound P f) : CS.Sound P f ⟨c.ps, c.rs, c.share, c.model⟩ := by
  refine ⟨hc.1, fun x y e w N args hN ha => ?_⟩
  refine (hc.2 x y e w N args hN ha).mono ?_
  rintro e w' ⟨v, δ, rfl, hg, hδ, _, vs, hv, hm⟩
  exact ⟨v, rfl, hg, resR_ofM _ _ _ _ hv (argsM_args (fun b hb => hb.1) c.rs c.ms y vs δ (fun r hr hreal => .inr (hδ r hr hreal)) hm)⟩
end Go.Proofs.AM
end

section
namespace Go.Proofs.AM
open Go Go.RowKit

structure IOc where
  T : TypeId
  k : K
  m : M
  ps : List (Bool × K)
  rs : List (Bool × K)
  model : PDen ((true, k) :: ps) → Option (PDen ((true, k) :: rs))

def InD (δ : List Bl) (b : Nat) : Prop := ∃ r ∈ δ, r.real = true ∧ b = r.blk

def ioN (w w' : World) (N : Nat → Prop) (B : Nat) (δ' : List Bl) (b : Nat) : Prop := (N b ∨ (w.heap.size ≤ b ∧ b < w'.heap.size)) ∧ b ≠ B ∧ ¬ InD δ' b

def IOc.Sound (P : Program) (f : FuncId) (c : IOc) : Prop :=
  (∀ args w, (callFunc f args).run P w = .ok (.enter f args) w) ∧
  ∀ (x : c.k.den) (a : PDen c.ps) (y : c.k.den) (z : PDen c.rs), c.model (x, a) = some (y, z) → ∀ (w : World) (N : Nat → Prop) (B : Nat) (cs : List Value) (δ : List Bl) (args : List Value),
    w.heap[B]? = some (.cells cs.toArray c.T (0, 0)) → rdM w N c.m c.k x cs δ → Apart δ → (∀ r ∈ δ, r.real = true → r.blk ≠ B ∧ r.blk < w.heap.size) →
    (∀ b, N b → b < w.heap.size ∧ b ≠ B ∧ ¬ InD δ b) → argsR w N c.ps a args →
    Calls P f (Value.pointer (some ⟨B, 0, none⟩) :: args).toArray w fun e w' => ∃ v cs' δ', e = .returned v ∧ Kept (fun b => b = B ∨ InD δ b) w w' ∧
      w'.heap[B]? = some (.cells (List.toArray cs') c.T (0, 0)) ∧ rdM w' (ioN w w' N B δ') c.m c.k y cs' δ' ∧ Apart δ' ∧
      (∀ r ∈ δ', r.real = true → r.blk ≠ B ∧ r.blk < w'.heap.size ∧ (w.heap.size ≤ r.blk ∨ InD δ r.blk)) ∧
      resR w' (ioN w w' N B δ') c.rs z v

def ioInit (fn : Func) (c : IOc) (x : PDen ((true, c.k) :: c.ps)) : AS :=
  { tmps := .one (.ptr 0 0) :: (aargs c.ps x.2 ++ List.replicate (fn.ntmps - c.ps.length - 1) undefTV), heap := (true, .box c.T (encM false c.m 1 c.k x.1).1) :: (encM false c.m 1 c.k x.1).2.map fun o => (true, o), marks := [] }

def afinIO (P : Program) (fn : Func) (c : IOc) (s : AS) : Option (PDen ((true, c.k) :: c.rs)) :=
  match aresults P s fn.results.toList with
  | some ts => match s.heap[0]? with
    | some (_, AObj.box T cs) => if T = c.T then match decM s.heap false c.m c.k cs with
      | some (y, ls, []) => match adec s.heap false c.rs ts with
        | some (z, _) => if nodupO (ls.map (·.1)) = true then some (y, z) else none
        | none => none
      | _ => none
      else none
    | _ => none
  | none => none

noncomputable def afunIO (P : Program) (Γ : Env) (an : Ann) (fn : Func) (T : TypeId) (k : K) (m : M) (ps rs : List (Bool × K)) (x : PDen ((true, k) :: ps)) : Option (PDen ((true, k) :: rs)) :=
  match fn.body with
  | none => none
  | some code => arun P Γ an code (PDen ((true, k) :: rs)) none 0 (ioInit fn ⟨T, k, m, ps, rs, fun _ => none⟩ x)
      { norm := aendI (ioInit fn ⟨T, k, m, ps, rs, fun _ => none⟩ x).heap.length (afinIO P fn ⟨T, k, m, ps, rs, fun _ => none⟩), exit := fun _ _ => none, ret := aendI (ioInit fn ⟨T, k, m, ps, rs, fun _ => none⟩ x).heap.length (afinIO P fn ⟨T, k, m, ps, rs, fun _ => none⟩) }

section
variable {P : Program} {Γ : Env}

theorem handed_occ {w : World} {N : Nat → Prop} {fr : Bool} {o : AObj} {r : Bl} {b : Nat} (h : Handed w N fr o r) (hb : b ∈ o.occ r) : r.real = true ∧ b = r.blk := by
  obtain ⟨T, k, xx, rfl, _⟩ := h
  simp only [AObj.occ] at hb
  split at hb
  · rename_i hreal; exact ⟨hreal, by simpa using hb⟩
  · simp at hb

theorem handed_R {w : World} {N N1 Nf1 : Nat → Prop} {β : List Bl} {fr : Bool} {o : AObj} {r : Bl} (h : Handed w N fr o r) (hN : ∀ b, N b → (if fr then Nf1 else N1) b) : o.R w N1 Nf1 β r := by
  obtain ⟨T, k, xx, rfl, p1, p2, p3, p4⟩ := h
  refine ⟨p1, p2, p3, ?_⟩
  by_cases hreal : r.real = true
  · simp only [hreal, if_true] at p4 ⊢
    obtain ⟨pre, mid, post, hh, hp, hrow, hcap⟩ := p4
    exact ⟨pre, mid, post, hh, hp, rows_weak (fun _ _ => rfl) (fun b hb => by
      have := hN b hb
      by_cases hg : fr = true
      · rw [if_pos hg] at this ⊢; exact this
      · rw [if_neg hg] at this ⊢; exact this) hrow, hcap⟩
  · simp only [hreal] at p4 ⊢
    exact p4

theorem ioinit_rel {fn : Func} {c : IOc} {x : c.k.den} {a : PDen c.ps} {w : World} {N : Nat → Prop} {B : Nat} {cs : List Value} {δ : List Bl} {args : List Value}
    (hB : w.heap[B]? = some (.cells cs.toArray c.T (0, 0))) (hx : rdM w N c.m c.k x cs δ) (hap : Apart δ) (hδ : ∀ r ∈ δ, r.real = true → r.blk ≠ B ∧ r.blk < w.heap.size)
    (hN : ∀ b, N b → b < w.heap.size ∧ b ≠ B ∧ ¬ InD δ b) (hargs : argsR w N c.ps a args) :
    Rel ⟨w, N, fun b => b = B ∨ InD δ b, []⟩ (ioInit fn c (x, a)) (⟨B, 0, 0, 0, 0, true, none, []⟩ :: δ)
      { tmps := (Value.pointer (some ⟨B, 0, none⟩) :: args).toArray ++ Array.replicate (fn.ntmps - (Value.pointer (some ⟨B, 0, none⟩) :: args).toArray.size) undef, defers := [] } w := by
  have hA := aargs_R (Nf := fun _ => False) hargs
  have hlen : args.length = c.ps.length := by rw [← All2.len' hA, aargs_len]
  obtain ⟨e1, e2, e3⟩ := rdM_enc false c.m c.k x cs δ 1 hx
  have hBs : B < w.heap.size := (Array.getElem?_eq_some_iff.1 hB).1
  have hob : ∀ (l : Nat) (o : Bool × AObj) (r : Bl), (ioInit fn c (x, a)).heap[l]? = some o → ((⟨B, 0, 0, 0, 0, true, none, []⟩ : Bl) :: δ)[l]? = some r →
      (l = 0 ∧ o = (true, .box c.T (encM false c.m 1 c.k x).1) ∧ r = ⟨B, 0, 0, 0, 0, true, none, []⟩) ∨ (∃ i, l = i + 1 ∧ δ[i]? = some r ∧ Handed w N false o.2 r) := by
    intro l o r ho hr
    cases l with
    | zero =>
      left
      simp only [ioInit, List.getElem?_cons_zero, Option.some.injEq] at ho hr
      exact ⟨rfl, ho.symm, hr.symm⟩
    | succ i =>
      right
      simp only [ioInit, List.getElem?_cons_succ, List.getElem?_map] at ho hr
      obtain ⟨o', ho', rfl⟩ := Option.map_eq_some_iff.1 ho
      exact ⟨i, rfl, hr, e2 i o' r ho' hr⟩
  have hocc : ∀ (l : Nat) (o : Bool × AObj) (r : Bl) (b : Nat), (ioInit fn c (x, a)).heap[l]? = some o → ((⟨B, 0, 0, 0, 0, true, none, []⟩ : Bl) :: δ)[l]? = some r → b ∈ o.2.occ r → (l = 0 ∧ b = B) ∨ ∃ i, l = i + 1 ∧ δ[i]? = some r ∧ r.real = true ∧ b = r.blk := by
    intro l o r b ho hr hb
    rcases hob l o r ho hr with ⟨rfl, rfl, rfl⟩ | ⟨i, rfl, hi, hh⟩
    · left; simpa [AObj.occ] using hb
    · right
      obtain ⟨h1, h2⟩ := handed_occ hh hb
      exact ⟨i, rfl, hi, h1, h2⟩
  have hN' : ∀ b, N b → Cx.N ⟨w, N, fun b => b = B ∨ InD δ b, []⟩ (ioInit fn c (x, a)).heap (⟨B, 0, 0, 0, 0, true, none, []⟩ :: δ) w b := fun b hb => by
    obtain ⟨h1, h2, h3⟩ := hN b hb
    refine ⟨.inl hb, h1, fun l o r ho hr hx => ?_⟩
    rcases hocc l o r b ho hr hx with ⟨_, h⟩ | ⟨i, _, hi, hreal, h⟩
    · exact h2 h
    · exact h3 ⟨r, List.mem_of_getElem? hi, hreal, h⟩
  refine { defers := ⟨[], rfl, trivial⟩, tsize := ?_, tm := ?_, bsize := ?_, ob := fun l o r ho hr => ?_, occ := fun l o r b ho hr hb => ?_, apart := fun l l' o o' r r' b h1 h2 h3 h4 h5 h6 => ?_, keep := Kept.refl _ _, frs := fun f hf => by simp at hf }
  · simp [ioInit, aargs_len, hlen]; omega
  · intro i t hi
    cases i with
    | zero =>
      simp only [ioInit, List.getElem?_cons_zero, Option.some.injEq] at hi
      subst hi
      refine ⟨⟨B, 0, 0, 0, 0, true, none, []⟩, rfl, ?_⟩
      rw [Array.getD_eq_getD_getElem?, Array.getElem?_append_left (by simp)]
      simp [Bl.addr]
    | succ i =>
      simp only [ioInit, List.getElem?_cons_succ] at hi
      by_cases hl : i < c.ps.length
      · rw [List.getElem?_append_left (by rw [aargs_len]; exact hl)] at hi
        obtain ⟨v, hv, hR⟩ := All2.get2 hA hi
        have : ((Value.pointer (some ⟨B, 0, none⟩) :: args).toArray ++ Array.replicate (fn.ntmps - (Value.pointer (some ⟨B, 0, none⟩) :: args).toArray.size) undef).getD (i + 1) undef = v := by
          rw [Array.getD_eq_getD_getElem?, Array.getElem?_append_left (by simpa [hlen] using hl)]
          simp [hv]
        show t.R w _ _ _ _
        rw [this]
        exact TV.R_mono (AV.R_mono (fun _ _ => rfl) hN' (fun b hb => hb.elim) (fun b hb => hb.elim) (fun l r h => by simp at h)) _ _ hR
      · rw [List.getElem?_append_right (by rw [aargs_len]; omega), aargs_len, List.getElem?_replicate] at hi
        split at hi
        · cases hi
          have : ((Value.pointer (some ⟨B, 0, none⟩) :: args).toArray ++ Array.replicate (fn.ntmps - (Value.pointer (some ⟨B, 0, none⟩) :: args).toArray.size) undef).getD (i + 1) undef = undef := by
            rw [Array.getD_eq_getD_getElem?, Array.getElem?_append_right (by simpa [hlen] using hl)]
            simp [Array.getElem?_replicate]
            split <;> rfl
          show undefTV.R w _ _ _ _
          rw [this]
          exact undefTV_R
        · simp at hi
  · simp [ioInit, e1]
  · rcases hob l o r ho hr with ⟨rfl, rfl, rfl⟩ | ⟨i, rfl, hi, hh⟩
    · exact ⟨cs, hB, rfl, e3 _ _ _ (fun b hb => hN' b hb) (fun i r hi => by rw [Nat.add_comm]; exact hi)⟩
    · exact handed_R hh (fun b hb => hN' b hb)
  · rcases hocc l o r b ho hr hb with ⟨_, rfl⟩ | ⟨i, _, hi, hreal, rfl⟩
    · exact ⟨hBs, .inr (.inl rfl)⟩
    · have hm := List.mem_of_getElem? hi
      exact ⟨(hδ r hm hreal).2, .inr (.inr ⟨r, hm, hreal, rfl⟩)⟩
  · rcases hocc l o r b h1 h2 h5 with ⟨rfl, rfl⟩ | ⟨i, rfl, hi, hreal, rfl⟩
    · rcases hocc l' o' r' _ h3 h4 h6 with ⟨rfl, _⟩ | ⟨j, rfl, hj, hreal', hb⟩
      · rfl
      · exact absurd hb.symm (hδ r' (List.mem_of_getElem? hj) hreal').1
    · rcases hocc l' o' r' _ h3 h4 h6 with ⟨rfl, hb⟩ | ⟨j, rfl, hj, hreal', hb⟩
      · exact absurd hb (hδ r (List.mem_of_getElem? hi) hreal).1
      · rw [hap i j r r' hi hj hreal hreal' hb]

theorem afunIO_sound (hΓ : Γ.Sound P) (hyl : Γ.yl = []) (hm : P.follows .mixedOrders = true) {an : Ann} {f : FuncId} {fn : Func} (hf : P.funcs[f]? = some fn) (hn : (fn.name == "runtime.NumGoroutine") = false) {c : IOc} {code : Code} (hbody : fn.body = some code)
    (hmod : ∀ x y, c.model x = some y → afunIO P Γ an fn c.T c.k c.m c.ps c.rs x = some y) (hi : (Γ.imm.any fun i => Nat.ble 300000 i) = false := by rfl) : c.Sound P f := by
  refine ⟨fun args w => ?_, fun x a y z hxy w N B cs δ args hB hx hap hδ hN hargs => ?_⟩
  · have h1 : fn.name ≠ "runtime.NumGoroutine" := by simpa using hn
    simp [callFunc, hf, h1, hbody, mark]
  · have e := hmod (x, a) (y, z) hxy
    simp only [afunIO, hbody] at e
    have hrel := ioinit_rel (fn := fn) (c := ⟨c.T, c.k, c.m, c.ps, c.rs, fun _ => none⟩) hB hx hap hδ hN hargs
    refine ((body_coreI hΓ hm hf hbody hrel _ (by simp) (Nat.le_refl _) (by rw [hyl]; exact YOK.nil _ _ _) (Env.NF.of hi) e (S := fun v w' => ∃ cs' δ', Kept (fun b => b = B ∨ InD δ b) w w' ∧
      w'.heap[B]? = some (.cells (List.toArray cs') c.T (0, 0)) ∧ rdM w' (ioN w w' N B δ') c.m c.k y cs' δ' ∧ Apart δ' ∧
      (∀ r ∈ δ', r.real = true → r.blk ≠ B ∧ r.blk < w'.heap.size ∧ (w.heap.size ≤ r.blk ∨ InD δ r.blk)) ∧
      resR w' (ioN w w' N B δ') c.rs z v) ?_)).mono ?_
    · intro s β a' w' hG h hgr
      unfold afinIO at hG
      split at hG
      rotate_left
      · simp at hG
      rename_i ts hts
      obtain ⟨vs, q1, q2⟩ := aresults_sound h hts
      split at hG
      rotate_left
      · simp at hG
      rename_i fl T cs0 h0
      split at hG
      rotate_left
      · simp at hG
      rename_i hT
      subst hT
      split at hG
      rotate_left
      · simp at hG
      rename_i y' ls hd
      split at hG
      rotate_left
      · simp at hG
      rename_i z' fz hz
      split at hG
      rotate_left
      · simp at hG
      rename_i hnd
      simp only [Option.some.injEq, Prod.mk.injEq] at hG
      obtain ⟨rfl, rfl⟩ := hG
      obtain ⟨δ2, hβ⟩ := hgr.bx
      have hb0 : β[0]? = some ⟨B, 0, 0, 0, 0, true, none, []⟩ := by rw [hβ]; rfl
      obtain ⟨us, hw, _, hus⟩ := h.ob 0 _ _ h0 hb0
      have key := decM_sound h (nf := false) (N1 := ioN w w' N B (ls.map (recM β))) ?_ c.m c.k cs0 us y' ls [] hus hd
      · obtain ⟨hls, v1, v2, rfl, hv2, hrd⟩ := key
        match v2, hv2 with
        | [], _ =>
        simp only [List.append_nil] at hw
        refine ⟨_, results_run q1, v1, ls.map (recM β), h.keep, hw, hrd, fun i j ri rj hi hj hri hrj hbb => ?_, fun r hr hreal => ?_, ?_⟩
        · obtain ⟨l, f, T, k, xs, fr, p1, g1, g2⟩ := recM_real hls hi hri
          obtain ⟨l', f', T', k', xs', fr', p1', g1', g2'⟩ := recM_real hls hj hrj
          have := h.apart l l' _ _ ri rj ri.blk g1 g2 g1' g2' (by simp [AObj.occ, hri]) (by simp [AObj.occ, hrj, hbb])
          subst this
          exact nodupO_idx hnd p1 p1'
        · obtain ⟨i, hi⟩ := List.mem_iff_getElem?.1 hr
          obtain ⟨l, f, T, k, xs, fr, _, g1, g2⟩ := recM_real hls hi hreal
          have ho := h.occ l _ r r.blk g1 g2 (by simp [AObj.occ, hreal])
          have hne : r.blk ≠ B := fun hb => by
            have := h.apart l 0 _ _ r _ r.blk g1 g2 h0 hb0 (by simp [AObj.occ, hreal]) (by simp [AObj.occ, hb])
            subst this
            rw [h0] at g1; simp at g1
          refine ⟨hne, ho.1, ?_⟩
          rcases ho.2 with h | h | h
          · exact .inl h
          · exact absurd h hne
          · exact .inr h
        · refine resR_of (argsR_mono (fun _ _ => rfl) (fun b hb => ?_) (adec_sound h q2 hz))
          have hb' : Cx.N ⟨w, N, fun b => b = B ∨ InD δ b, []⟩ s.heap β w' b := by
            cases fz with
            | true => exact Cx.fresh_N hb
            | false => exact hb
          refine ⟨?_, fun hbB => hb'.2.2 0 _ _ h0 hb0 (by simp [AObj.occ, hbB]), fun ⟨r, hr, hreal, hbb⟩ => ?_⟩
          · rcases hb'.1 with h1 | h1
            · exact .inl h1
            · exact .inr ⟨h1, hb'.2.1⟩
          · obtain ⟨i, hi⟩ := List.mem_iff_getElem?.1 hr
            obtain ⟨l, f, T, k, xs, fr, _, g1, g2⟩ := recM_real hls hi hreal
            exact hb'.2.2 l _ r g1 g2 (by simp [AObj.occ, hreal, hbb])
      · intro b hb
        have hb' : Cx.N ⟨w, N, fun b => b = B ∨ InD δ b, []⟩ s.heap β w' b := hb
        have hlsok := (decM_sound h (nf := false) (N1 := fun _ => True) (fun _ _ => trivial) c.m c.k cs0 us y' ls [] hus hd).1
        refine ⟨?_, fun hbB => hb'.2.2 0 _ _ h0 hb0 (by simp [AObj.occ, hbB]), fun ⟨r, hr, hreal, hbb⟩ => ?_⟩
        · rcases hb'.1 with h1 | h1
          · exact .inl h1
          · exact .inr ⟨h1, hb'.2.1⟩
        · obtain ⟨i, hi⟩ := List.mem_iff_getElem?.1 hr
          obtain ⟨l, f, T, k, xs, fr, _, g1, g2⟩ := recM_real hlsok hi hreal
          exact hb'.2.2 l _ r g1 g2 (by simp [AObj.occ, hreal, hbb])
    · rintro e' w' ⟨v, rfl, cs', δ', h1⟩
      exact ⟨v, cs', δ', rfl, h1⟩

theorem afunIO_sound' (hΓ : Γ.Sound P) (hyl : Γ.yl = []) (hm : P.follows .mixedOrders = true) {an : Ann} {f : FuncId} {fn : Func} (hf : P.funcs[f]? = some fn) (hn : (fn.name == "runtime.NumGoroutine") = false) (hbody : fn.body.isSome = true) {T : TypeId} {k : K} {m : M} {ps rs : List (Bool × K)}
    {model : PDen ((true, k) :: ps) → Option (PDen ((true, k) :: rs))} (hmod : (fun x => afunIO P Γ an fn T k m ps rs x) = model) (hi : (Γ.imm.any fun i => Nat.ble 300000 i) = false := by rfl) : (IOc.mk T k m ps rs model).Sound P f := by
  obtain ⟨c, hc⟩ := Option.isSome_iff_exists.1 hbody
  exact afunIO_sound hΓ hyl hm hf hn hc (fun x y h => by rw [← hmod] at h; exact h) hi
end

def decMF (h : Heap) (m : M) (k : K) (cs : List AV) : Option (k.den × List (Option Nat × Nat) × Bool) :=
  match decM h true m k cs with
  | some (x, ls, []) => some (x, ls, true)
  | _ => match decM h false m k cs with
    | some (x, ls, []) => some (x, ls, false)
    | _ => none

def ioRows (ls : List (Option Nat × Nat)) : List Nat := ls.filterMap (·.1)

structure IOX (c : IOc) where
  x : PDen ((true, c.k) :: c.ps)
  l : Nat
  rows : List Nat
  fr : Bool

def IOc.dec (c : IOc) (h : Heap) : List TV → Option (IOX c)
  | .one (.ptr l 0) :: ts => match hat h l with
    | AObj.box T cs => if T = c.T then match decMF h c.m c.k cs with
      | some (x, ls, fr) => match adec h false c.ps ts with
        | some (a, f) => if nodupO (ls.map (·.1)) = true then some ⟨(x, a), l, ioRows ls, fr && f⟩ else none
        | none => none
      | none => none
      else none
    | _ => none
  | _ => none

def IOc.tch (c : IOc) (h : Heap) : List TV → List Nat
  | .one (.ptr l 0) :: _ => match hat h l with
    | AObj.box _ cs => match decMF h c.m c.k cs with
      | some (_, ls, _) => l :: ioRows ls
      | none => []
    | _ => []
  | _ => []

theorem IOc.dec_tch {c : IOc} {h : Heap} {ts : List TV} {X : IOX c} (e : c.dec h ts = some X) : c.tch h ts = X.l :: X.rows := by
  unfold IOc.dec at e
  split at e
  rotate_left
  · simp at e
  rename_i l ts'
  split at e
  rotate_left
  · simp at e
  rename_i T cs hb
  split at e
  rotate_left
  · simp at e
  split at e
  rotate_left
  · simp at e
  rename_i x ls fr hm
  split at e
  rotate_left
  · simp at e
  split at e
  rotate_left
  · simp at e
  simp only [Option.some.injEq] at e
  subst e
  simp only [IOc.tch, hb, hm]

def IOc.hd (c : IOc) : HD where
  X := IOX c
  Y := PDen ((true, c.k) :: c.rs)
  dec := c.dec
  model X := c.model X.x
  out h _ X y := ((killL h X.rows).set X.l (true, .box c.T (encM X.fr c.m h.length c.k y.1).1) ++ (encM X.fr c.m h.length c.k y.1).2.map fun o => (true, o), resTV (acomps X.fr c.rs y.2))
  touch := some c.tch
  touches := by
    intro f hf h ts x y hd
    simp only [Option.some.injEq] at hf
    subst hf
    rw [IOc.dec_tch hd]
    refine ⟨by simp [killL_len], fun l hl hn => ?_⟩
    have h1 : l ≠ x.l := fun e => hn (by simp [e])
    have h2 : l ∉ x.rows := fun e => hn (by simp [e])
    rw [List.getElem?_append_left (by simp [killL_len, hl]), List.getElem?_set_ne (Ne.symm h1), killL_ne _ _ _ h2]

theorem killL_some {h : Heap} : ∀ {T : List Nat} {l : Nat} {o : Bool × AObj}, (killL h T)[l]? = some o → o = (true, .dead) ∨ (h[l]? = some o ∧ l ∉ T)
  | [], l, o, e => .inr ⟨e, by simp⟩
  | x :: T, l, o, e => by
    simp only [killL] at e
    by_cases hx : x = l
    · subst hx
      left
      rw [List.getElem?_set] at e
      simp only [if_true] at e
      split at e
      · simpa using e.symm
      · simp at e
    · rw [List.getElem?_set_ne hx] at e
      rcases killL_some e with h | ⟨h1, h2⟩
      · exact .inl h
      · exact .inr ⟨h1, by simp [Ne.symm hx, h2]⟩

theorem ioRes_R {w : World} {N Nf : Nat → Prop} {β : List Bl} {fr : Bool} {rs : List (Bool × K)} {y : PDen rs} {v : Value} (h : resR w (if fr then Nf else N) rs y v) : (resTV (acomps fr rs y)).R w N Nf β v := by
  have comp : ∀ (b : Bool) (cs : List AV), compR w N Nf β (b, cs) v → ((shapeTV b cs).getD (.one .junk)).R w N Nf β v := by
    intro b cs hc
    cases b with
    | true => exact hc
    | false =>
      match cs, hc with
      | [c], hc => exact hc
  match rs, y, h with
  | [], y, h =>
    obtain ⟨vs, rfl, h1⟩ := h
    simp [argsR] at h1
    subst h1
    exact ⟨[], rfl, trivial⟩
  | [p], y, h =>
    have hc := acomps_R (β := β) (rs := [p]) (y := y) (vs := [v]) (N := N) (Nf := Nf) (fr := fr) ⟨v, [], rfl, h, rfl⟩
    exact comp _ _ hc.1
  | p :: q :: rs, y, h =>
    obtain ⟨vs, rfl, h1⟩ := h
    exact ⟨vs, rfl, acomps_R (β := β) (rs := p :: q :: rs) (y := y) h1⟩

theorem IOc.Sound.hd {P : Program} {f : FuncId} {c : IOc} (hc : c.Sound P f) : c.hd.Sound P f := by
  refine ⟨hc.1, fun X y hxy C s β a w ts vs h hvs hdec0 => ?_⟩
  have hdec : c.dec s.heap ts = some X := hdec0
  clear hdec0
  obtain ⟨y, z⟩ := y
  have hy1 : c.model X.x = some (y, z) := hxy
  unfold IOc.dec at hdec
  split at hdec
  rotate_left
  · simp at hdec
  rename_i l ts'
  split at hdec
  rotate_left
  · simp at hdec
  rename_i T cs hbox
  split at hdec
  rotate_left
  · simp at hdec
  rename_i hT
  subst hT
  split at hdec
  rotate_left
  · simp at hdec
  rename_i x ls frx hx
  split at hdec
  rotate_left
  · simp at hdec
  rename_i ar fa har
  split at hdec
  rotate_left
  · simp at hdec
  rename_i hnd
  have hX : (⟨(x, ar), l, ioRows ls, frx && fa⟩ : IOX c) = X := Option.some.inj hdec
  clear hdec
  subst hX
  match vs, hvs with
  | v0 :: vs, hvs =>
  obtain ⟨hv0, hvs⟩ := hvs
  obtain ⟨fl, rB, hl, hrB, us, hw, hbase, hus⟩ := h.obj hbox (by simp)
  obtain ⟨rB', hrB', hv0⟩ := hv0
  rw [hrB] at hrB'; cases hrB'
  have hv0 : v0 = .pointer (some ⟨rB.blk, 0, none⟩) := by rw [hv0]; simp [Bl.addr, hbase]
  subst hv0
  -- what is read
  generalize hfr : (frx && fa) = fr at *
  have hNd : ∀ b, Dec C s β w false fr b → b < w.heap.size ∧ Free s.heap β b := fun b hb => by
    cases fr with
    | true => exact ⟨hb.2.1, hb.2.2⟩
    | false => exact ⟨hb.2.1, hb.2.2⟩
  have hx' : LsOK s β ls ∧ rdM w (Dec C s β w false fr) c.m c.k x us (ls.map (recM β)) := by
    have key : ∀ nf : Bool, (nf = true ∨ fr = false) → decM s.heap nf c.m c.k cs = some (x, ls, []) → LsOK s β ls ∧ rdM w (Dec C s β w false fr) c.m c.k x us (ls.map (recM β)) := by
      intro nf hnf hd
      obtain ⟨q1, v1, v2, e12, hv2, q2⟩ := decM_sound h (nf := nf) (N1 := Dec C s β w false fr) (fun b hb => by
        cases nf with
        | true => cases fr with
          | true => exact hb
          | false => exact Cx.fresh_N hb
        | false => cases fr with
          | true => simp at hnf
          | false => exact hb) c.m c.k cs us x ls [] hus hd
      match v2, hv2 with
      | [], _ =>
      simp only [List.append_nil] at e12
      subst e12
      exact ⟨q1, q2⟩
    unfold decMF at hx
    split at hx
    · rename_i x1 ls1 hd
      simp only [Option.some.injEq, Prod.mk.injEq] at hx
      obtain ⟨rfl, rfl, rfl⟩ := hx
      exact key true (.inl rfl) hd
    · split at hx
      · rename_i x1 ls1 hd
        simp only [Option.some.injEq, Prod.mk.injEq] at hx
        obtain ⟨rfl, rfl, rfl⟩ := hx
        exact key false (.inr (by simpa using hfr.symm)) hd
      · simp at hx
  obtain ⟨hls, hrd⟩ := hx'
  have hargs : argsR w (Dec C s β w false fr) c.ps ar vs := argsR_mono (fun _ _ => rfl) (fun b hb => hb.weak (by rw [← hfr]; simp)) (adec_sound h hvs har)
  have rowsOK : ∀ {i : Nat} {r : Bl}, (ls.map (recM β))[i]? = some r → r.real = true → ∃ l' f T k xs q, (ls.map (·.1))[i]? = some (some l') ∧ s.heap[l']? = some (f, .vec T k xs q) ∧ β[l']? = some r ∧ l' ∈ ioRows ls := by
    intro i r hi hr
    obtain ⟨l', f, T, k, xs, q, g1, g2, g3⟩ := recM_real hls hi hr
    refine ⟨l', f, T, k, xs, q, g1, g2, g3, ?_⟩
    rw [List.getElem?_map] at g1
    obtain ⟨p, hp, hp2⟩ := Option.map_eq_some_iff.1 g1
    exact List.mem_filterMap.2 ⟨p, List.mem_of_getElem? hp, hp2⟩
  have rowsMem : ∀ {l' : Nat}, l' ∈ ioRows ls → ∃ f T k xs q, s.heap[l']? = some (f, .vec T k xs q) := by
    intro l' hm
    obtain ⟨p, hp, hp2⟩ := List.mem_filterMap.1 hm
    obtain ⟨o, zz⟩ := p
    simp only at hp2
    subst hp2
    obtain ⟨f, T, k, xs, q, g, _⟩ := hls l' zz hp
    exact ⟨f, T, k, xs, q, g⟩
  have hlne : l ∉ ioRows ls := fun hm => by
    obtain ⟨f, T, k, xs, q, g⟩ := rowsMem hm
    rw [hl] at g; simp at g
  have hap : Apart (ls.map (recM β)) := fun i j ri rj hi hj hri hrj hbb => by
    obtain ⟨l1, f, T, k, xs, q, p1, g1, g2, _⟩ := rowsOK hi hri
    obtain ⟨l2, f', T', k', xs', q', p1', g1', g2', _⟩ := rowsOK hj hrj
    have := h.apart l1 l2 _ _ ri rj ri.blk g1 g2 g1' g2' (by simp [AObj.occ, hri]) (by simp [AObj.occ, hrj, hbb])
    subst this
    exact nodupO_idx hnd p1 p1'
  have hin : ∀ b, InD (ls.map (recM β)) b → ∃ l' o r, l' ∈ ioRows ls ∧ s.heap[l']? = some o ∧ β[l']? = some r ∧ b ∈ o.2.occ r := by
    rintro b ⟨r, hr, hreal, rfl⟩
    obtain ⟨i, hi⟩ := List.mem_iff_getElem?.1 hr
    obtain ⟨l', f, T, k, xs, q, p1, g1, g2, g3⟩ := rowsOK hi hreal
    exact ⟨l', _, r, g3, g1, g2, by simp [AObj.occ, hreal]⟩
  have hδ : ∀ r ∈ ls.map (recM β), r.real = true → r.blk ≠ rB.blk ∧ r.blk < w.heap.size := fun r hr hreal => by
    obtain ⟨l', o, r', g0, g1, g2, g3⟩ := hin r.blk ⟨r, hr, hreal, rfl⟩
    refine ⟨fun hbb => ?_, (h.occ l' o r' _ g1 g2 g3).1⟩
    have := h.apart l' l _ _ r' rB r.blk g1 g2 hl hrB g3 (by simp [AObj.occ, hbb])
    subst this
    exact hlne g0
  refine (hc.2 x ar y z hy1 w (Dec C s β w false fr) rB.blk us (ls.map (recM β)) vs hw hrd hap hδ (fun b hb => ?_) hargs).mono ?_
  · obtain ⟨h1, h2⟩ := hNd b hb
    refine ⟨h1, fun hbb => h2 l _ rB hl hrB (by simp [AObj.occ, hbb]), fun hi => ?_⟩
    obtain ⟨l', o, r', _, g1, g2, g3⟩ := hin b hi
    exact h2 l' o r' g1 g2 g3
  rintro e' w' ⟨v, cs', δ', rfl, hk, hw', hrd', hap', hδ', hres⟩
  have hks := h.keep.size
  obtain ⟨e1, e2, e3⟩ := rdM_enc fr c.m c.k y cs' δ' s.heap.length hrd'
  generalize hobj : (encM fr c.m s.heap.length c.k y).2 = objs at e1 e2
  generalize hcel : (encM fr c.m s.heap.length c.k y).1 = cells at e3
  let h' : Heap := (killL s.heap (ioRows ls)).set l (true, .box c.T cells) ++ objs.map fun o => (true, o)
  have hlen0 : ((killL s.heap (ioRows ls)).set l (true, AObj.box c.T cells)).length = s.heap.length := by simp [killL_len]
  have hll : l < s.heap.length := (List.getElem?_eq_some_iff.1 hl).1
  -- what lies there now
  have hget : ∀ (l1 : Nat) (o : Bool × AObj) (r : Bl), h'[l1]? = some o → (β ++ δ')[l1]? = some r →
      (l1 = l ∧ o = (true, .box c.T cells) ∧ r = rB) ∨ (l1 ≠ l ∧ l1 ∈ ioRows ls ∧ o = (true, .dead)) ∨ (l1 ≠ l ∧ l1 ∉ ioRows ls ∧ s.heap[l1]? = some o ∧ β[l1]? = some r) ∨ (∃ i, l1 = s.heap.length + i ∧ δ'[i]? = some r ∧ Handed w' (ioN w w' (Dec C s β w false fr) rB.blk δ') fr o.2 r) := by
    intro l1 o r ho hr
    by_cases h1 : l1 < s.heap.length
    · have ho : ((killL s.heap (ioRows ls)).set l (true, AObj.box c.T cells))[l1]? = some o := by
        have ho : (((killL s.heap (ioRows ls)).set l (true, AObj.box c.T cells)) ++ _)[l1]? = some o := ho
        rwa [List.getElem?_append_left (by rw [hlen0]; exact h1)] at ho
      rw [List.getElem?_append_left (by rw [h.bsize]; exact h1)] at hr
      by_cases e : l1 = l
      · subst e
        rw [List.getElem?_set_self (by rw [killL_len]; exact h1)] at ho
        simp only [Option.some.injEq] at ho
        rw [hrB] at hr
        simp only [Option.some.injEq] at hr
        exact .inl ⟨rfl, ho.symm, hr.symm⟩
      · rw [List.getElem?_set_ne (Ne.symm e)] at ho
        by_cases hm : l1 ∈ ioRows ls
        · have hd := killL_mem s.heap (ioRows ls) l1 hm
          rcases killL_some ho with hq | ⟨_, hq⟩
          · exact .inr (.inl ⟨e, hm, hq⟩)
          · exact absurd hm hq
        · rw [killL_ne _ _ _ hm] at ho
          exact .inr (.inr (.inl ⟨e, hm, ho, hr⟩))
    · have ho : (objs.map fun o => ((true, o) : Bool × AObj))[l1 - s.heap.length]? = some o := by
        have ho : (((killL s.heap (ioRows ls)).set l (true, AObj.box c.T cells)) ++ objs.map fun o => ((true, o) : Bool × AObj))[l1]? = some o := ho
        rwa [List.getElem?_append_right (by rw [hlen0]; omega), hlen0] at ho
      rw [List.getElem?_append_right (by rw [h.bsize]; omega), h.bsize] at hr
      rw [List.getElem?_map] at ho
      obtain ⟨o', ho', rfl⟩ := Option.map_eq_some_iff.1 ho
      exact .inr (.inr (.inr ⟨l1 - s.heap.length, by omega, hr, e2 _ _ _ ho' hr⟩))
  have hnewB : ∀ (r : Bl) (i : Nat), δ'[i]? = some r → r.real = true → r.blk ≠ rB.blk ∧ r.blk < w'.heap.size ∧ (w.heap.size ≤ r.blk ∨ InD (ls.map (recM β)) r.blk) := fun r i hi hreal => hδ' r (List.mem_of_getElem? hi) hreal
  have reach : ∀ b, ioN w w' (Dec C s β w false fr) rB.blk δ' b → (if fr then C.fresh h' (β ++ δ') w' else C.N h' (β ++ δ') w') b := by
    rintro b ⟨hb, hbB, hbD⟩
    have hfree : (w.heap.size ≤ b ∨ Free s.heap β b) → Free h' (β ++ δ') b := by
      intro hor l1 o r ho hr hbo
      rcases hget l1 o r ho hr with ⟨rfl, rfl, rfl⟩ | ⟨_, _, rfl⟩ | ⟨_, _, g1, g2⟩ | ⟨i, _, g2, g3⟩
      · exact hbB (by simpa [AObj.occ] using hbo)
      · simp [AObj.occ] at hbo
      · rcases hor with hge | hfr2
        · have := (h.occ l1 o r b g1 g2 hbo).1; omega
        · exact hfr2 l1 o r g1 g2 hbo
      · obtain ⟨hreal, hb2⟩ := handed_occ g3 hbo
        exact hbD ⟨r, List.mem_of_getElem? g2, hreal, hb2⟩
    cases fr with
    | true =>
      rcases hb with hb | hb
      · exact ⟨hb.1, by have := hb.2.1; have := hk.size; omega, hfree (.inr hb.2.2)⟩
      · exact ⟨by omega, hb.2, hfree (.inl hb.1)⟩
    | false =>
      rcases hb with hb | hb
      · exact ⟨hb.1, by have := hb.2.1; have := hk.size; omega, hfree (.inr hb.2.2)⟩
      · exact ⟨.inr (by omega), hb.2, hfree (.inl hb.1)⟩
  have hgen := h.gen (hdr := hk.drawn) h' δ' w' (fun l1 => l1 = l ∨ l1 ∈ ioRows ls) hk.os hk.tape hk.output hk.size (by simp [h', killL_len, e1])
    (fun l1 o ho hn => ⟨o, by
      have h1 : l1 ≠ l := fun e => hn (.inl e)
      have h2 : l1 ∉ ioRows ls := fun e => hn (.inr e)
      show (((killL s.heap (ioRows ls)).set l (true, AObj.box c.T cells)) ++ _)[l1]? = some o
      rw [List.getElem?_append_left (by rw [hlen0]; exact (List.getElem?_eq_some_iff.1 ho).1), List.getElem?_set_ne (Ne.symm h1), killL_ne _ _ _ h2]; exact ho, rfl⟩)
    (fun l1 _ ho => by
      have h1 : l1 ≠ l := fun e => by subst e; rw [hl] at ho; simp at ho
      have h2 : l1 ∉ ioRows ls := fun e => by
        obtain ⟨f, T, k, xs, q, g⟩ := rowsMem e
        rw [ho] at g; simp at g
      show (((killL s.heap (ioRows ls)).set l (true, AObj.box c.T cells)) ++ _)[l1]? = _
      rw [List.getElem?_append_left (by rw [hlen0]; exact (List.getElem?_eq_some_iff.1 ho).1), List.getElem?_set_ne (Ne.symm h1), killL_ne _ _ _ h2]; exact ho)
    (fun b hb hx => hk.block b hb (fun hF => by
      rcases hF with rfl | hF
      · exact hx l _ rB hl hrB (.inl rfl) (by simp [AObj.occ])
      · obtain ⟨l', o, r', g0, g1, g2, g3⟩ := hin b hF
        exact hx l' o r' g1 g2 (.inr g0) g3))
    (fun l1 o r b ho hr hch hbo => by
      rcases hget l1 o r ho hr with ⟨rfl, rfl, rfl⟩ | ⟨_, _, rfl⟩ | ⟨h1, h2, g1, g2⟩ | ⟨i, _, g2, g3⟩
      · have hb2 : b = r.blk := by simpa [AObj.occ] using hbo
        subst hb2
        exact ⟨(Array.getElem?_eq_some_iff.1 hw').1, .inr ⟨_, _, r, hl, hrB, .inl rfl, by simp [AObj.occ]⟩⟩
      · simp [AObj.occ] at hbo
      · rcases hch with (hch | hch) | hch
        · exact absurd hch h1
        · exact absurd hch h2
        · have := (List.getElem?_eq_some_iff.1 g1).1; omega
      · obtain ⟨hreal, rfl⟩ := handed_occ g3 hbo
        obtain ⟨_, q2, q3⟩ := hnewB r i g2 hreal
        refine ⟨q2, ?_⟩
        rcases q3 with q3 | q3
        · exact .inl q3
        · obtain ⟨l', o', r', g0, g1, g2, g3⟩ := hin _ q3
          exact .inr ⟨l', o', r', g1, g2, .inr g0, g3⟩)
    (fun l1 l2 o1 o2 r1 r2 b ho1 hr1 ho2 hr2 hch1 hch2 hb1 hb2 => by
      have cls : ∀ (l1 : Nat) (o : Bool × AObj) (r : Bl), h'[l1]? = some o → (β ++ δ')[l1]? = some r → ((l1 = l ∨ l1 ∈ ioRows ls) ∨ s.heap.length ≤ l1) → b ∈ o.2.occ r → (l1 = l ∧ b = rB.blk) ∨ ∃ i, l1 = s.heap.length + i ∧ δ'[i]? = some r ∧ r.real = true ∧ b = r.blk := by
        intro l1 o r ho hr hch hbo
        rcases hget l1 o r ho hr with ⟨rfl, rfl, rfl⟩ | ⟨_, _, rfl⟩ | ⟨h1, h2, g1, g2⟩ | ⟨i, hi, g2, g3⟩
        · exact .inl ⟨rfl, by simpa [AObj.occ] using hbo⟩
        · simp [AObj.occ] at hbo
        · rcases hch with (hch | hch) | hch
          · exact absurd hch h1
          · exact absurd hch h2
          · have := (List.getElem?_eq_some_iff.1 g1).1; omega
        · obtain ⟨hreal, hb⟩ := handed_occ g3 hbo
          exact .inr ⟨i, hi, g2, hreal, hb⟩
      rcases cls l1 o1 r1 ho1 hr1 hch1 hb1 with ⟨rfl, rfl⟩ | ⟨i, rfl, hi, hreal, rfl⟩
      · rcases cls l2 o2 r2 ho2 hr2 hch2 hb2 with ⟨rfl, _⟩ | ⟨j, rfl, hj, hreal', hb⟩
        · rfl
        · exact absurd hb.symm (hnewB r2 j hj hreal').1
      · rcases cls l2 o2 r2 ho2 hr2 hch2 hb2 with ⟨rfl, hb⟩ | ⟨j, rfl, hj, hreal', hb⟩
        · exact absurd hb (hnewB r1 i hi hreal).1
        · rw [hap' i j r1 r2 hi hj hreal hreal' hb])
    (fun l1 o r ho hr hch _ _ _ _ => by
      rcases hget l1 o r ho hr with ⟨rfl, rfl, rfl⟩ | ⟨_, _, rfl⟩ | ⟨h1, h2, g1, g2⟩ | ⟨i, hi, g2, g3⟩
      · exact ⟨cs', hw', hbase, e3 _ _ _ reach (fun i r hi => by rw [← h.bsize, List.getElem?_append_right (by omega)]; simpa using hi)⟩
      · trivial
      · rcases hch with (hch | hch) | hch
        · exact absurd hch h1
        · exact absurd hch h2
        · have := (List.getElem?_eq_some_iff.1 g1).1; omega
      · exact handed_R g3 reach)
  obtain ⟨h2, mv⟩ := hgen
  refine ⟨v, β ++ δ', rfl, ?_, ?_, ⟨δ', rfl⟩, ?_, fun l1 o hl1 ho => ?_, fun l1 ho => ?_⟩
  · show Rel C { s with heap := ((killL s.heap (ioRows ls)).set l (true, .box c.T (encM fr c.m s.heap.length c.k y).1) ++ (encM fr c.m s.heap.length c.k y).2.map fun o => (true, o)) } (β ++ δ') a w'
    rw [hobj, hcel]; exact h2
  · show TV.R w' (C.N ((killL s.heap (ioRows ls)).set l (true, .box c.T (encM fr c.m s.heap.length c.k y).1) ++ (encM fr c.m s.heap.length c.k y).2.map fun o => (true, o)) (β ++ δ') w') (C.fresh ((killL s.heap (ioRows ls)).set l (true, .box c.T (encM fr c.m s.heap.length c.k y).1) ++ (encM fr c.m s.heap.length c.k y).2.map fun o => (true, o)) (β ++ δ') w') (β ++ δ') (resTV (acomps fr c.rs z)) v
    rw [hobj, hcel]
    have hres2 : resR w' (if fr then C.fresh h' (β ++ δ') w' else C.N h' (β ++ δ') w') c.rs z v := by
      have mono : ∀ {M M' : Nat → Prop}, (∀ b, M b → M' b) → resR w' M c.rs z v → resR w' M' c.rs z v := by
        intro M M' hM hr
        unfold resR at hr ⊢
        split at hr
        · exact valR_mono (fun _ _ => rfl) hM hr
        · obtain ⟨us, e1, h1⟩ := hr
          exact ⟨us, e1, argsR_mono (fun _ _ => rfl) hM h1⟩
      refine mono (fun b hb => ?_) hres
      have := reach b hb
      cases fr <;> exact this
    exact ioRes_R hres2
  · show _ ≤ (((killL s.heap (ioRows ls)).set l _) ++ _).length
    simp [killL_len]
  · have ho : (((killL s.heap (ioRows ls)).set l (true, .box c.T (encM fr c.m s.heap.length c.k y).1)) ++ (encM fr c.m s.heap.length c.k y).2.map fun o => ((true, o) : Bool × AObj))[l1]? = some (false, o) := ho
    rw [hobj, hcel] at ho
    have hr : ∃ r, (β ++ δ')[l1]? = some r := ⟨_, List.getElem?_eq_getElem (by simp [h.bsize]; omega)⟩
    obtain ⟨r, hr⟩ := hr
    rcases hget l1 _ r ho hr with ⟨_, hq, _⟩ | ⟨_, _, hq⟩ | ⟨_, _, g1, _⟩ | ⟨i, hi, _⟩
    · simp at hq
    · simp at hq
    · exact g1
    · omega
  · show (((killL s.heap (ioRows ls)).set l (true, .box c.T (encM fr c.m s.heap.length c.k y).1)) ++ (encM fr c.m s.heap.length c.k y).2.map fun o => ((true, o) : Bool × AObj))[l1]? = some (true, .mark)
    have h1 : l1 ≠ l := fun e => by subst e; rw [hl] at ho; simp at ho
    have h2 : l1 ∉ ioRows ls := fun e => by
      obtain ⟨f, T, k, xs, q, g⟩ := rowsMem e
      rw [ho] at g; simp at g
    rw [List.getElem?_append_left (by simp [killL_len]; exact (List.getElem?_eq_some_iff.1 ho).1), List.getElem?_set_ne (Ne.symm h1), killL_ne _ _ _ h2]; exact ho
end Go.Proofs.AM
end

section
namespace Go.Proofs.AM
open Go Go.RowKit

structure IRc where
  T : TypeId
  k : K
  ps : List (Bool × K)
  rs : List (Bool × K)
  ms : List M
  model : PDen ((false, .sl k) :: ps) → Option (PDen ((false, .sl k) :: rs))

def irN (w w' : World) (N : Nat → Prop) (δ' : List Bl) (b : Nat) : Prop := (N b ∨ (w.heap.size ≤ b ∧ b < w'.heap.size)) ∧ ¬ InD δ' b

def IRc.Sound (P : Program) (f : FuncId) (c : IRc) : Prop :=
  (∀ args w, (callFunc f args).run P w = .ok (.enter f args) w) ∧
  ∀ (x : List c.k.den) (a : PDen c.ps) (y : List c.k.den) (z : PDen c.rs), c.model (x, a) = some (y, z) → ∀ (w : World) (N : Nat → Prop) (r : Bl) (A : Option Addr) (cp : Nat) (args : List Value),
    r.n ≤ cp → r.slice A 0 r.n cp → (AObj.vec c.T c.k x false).R w N N [] r → (r.real = true → r.blk < w.heap.size) →
    (∀ b, N b → b < w.heap.size ∧ ¬ InD [r] b) → argsR w N c.ps a args →
    Calls P f (Value.slice A r.n cp :: args).toArray w fun e w' => ∃ v δ', e = .returned v ∧ Kept (InD [r]) w w' ∧
      (AObj.vec c.T c.k y false).R w' (irN w w' N (r :: δ')) (irN w w' N (r :: δ')) [] r ∧ Apart (r :: δ') ∧
      (∀ r' ∈ δ', r'.real = true → r'.blk < w'.heap.size ∧ w.heap.size ≤ r'.blk) ∧
      resM w' (irN w w' N (r :: δ')) c.rs c.ms z v δ'

def irInit (fn : Func) (c : IRc) (x : PDen ((false, .sl c.k) :: c.ps)) : AS :=
  { tmps := .one (.vf 0) :: (aargs c.ps x.2 ++ List.replicate (fn.ntmps - c.ps.length - 1) undefTV), heap := [(true, .vec c.T c.k x.1 false)], marks := [] }

section
variable {P : Program} {Γ : Env}

theorem irinit_rel {fn : Func} {c : IRc} {x : List c.k.den} {a : PDen c.ps} {w : World} {N : Nat → Prop} {r : Bl} {A : Option Addr} {cp : Nat} {args : List Value}
    (hle : r.n ≤ cp) (hsl : r.slice A 0 r.n cp) (hx : (AObj.vec c.T c.k x false).R w N N [] r) (hr : r.real = true → r.blk < w.heap.size)
    (hN : ∀ b, N b → b < w.heap.size ∧ ¬ InD [r] b) (hargs : argsR w N c.ps a args) :
    Rel ⟨w, N, InD [r], []⟩ (irInit fn c (x, a)) [r]
      { tmps := (Value.slice A r.n cp :: args).toArray ++ Array.replicate (fn.ntmps - (Value.slice A r.n cp :: args).toArray.size) undef, defers := [] } w := by
  have hA := aargs_R (Nf := fun _ => False) hargs
  have hlen : args.length = c.ps.length := by rw [← All2.len' hA, aargs_len]
  have hob : ∀ (l : Nat) (o : Bool × AObj) (r' : Bl), (irInit fn c (x, a)).heap[l]? = some o → ([r] : List Bl)[l]? = some r' → l = 0 ∧ o = (true, .vec c.T c.k x false) ∧ r' = r := by
    intro l o r' ho hr
    cases l with
    | zero =>
      simp only [irInit, List.getElem?_cons_zero, Option.some.injEq] at ho hr
      exact ⟨rfl, ho.symm, hr.symm⟩
    | succ i => simp at hr
  have hocc : ∀ (l : Nat) (o : Bool × AObj) (r' : Bl) (b : Nat), (irInit fn c (x, a)).heap[l]? = some o → ([r] : List Bl)[l]? = some r' → b ∈ o.2.occ r' → l = 0 ∧ r.real = true ∧ b = r.blk := by
    intro l o r' b ho hr hb
    obtain ⟨rfl, rfl, rfl⟩ := hob l o r' ho hr
    simp only [AObj.occ] at hb
    split at hb
    · rename_i hreal; exact ⟨rfl, hreal, by simpa using hb⟩
    · simp at hb
  have hN' : ∀ b, N b → Cx.N ⟨w, N, InD [r], []⟩ (irInit fn c (x, a)).heap [r] w b := fun b hb => by
    obtain ⟨h1, h3⟩ := hN b hb
    refine ⟨.inl hb, h1, fun l o r' ho hr hx => ?_⟩
    obtain ⟨_, h2, h4⟩ := hocc l o r' b ho hr hx
    exact h3 ⟨r, by simp, h2, h4⟩
  refine { defers := ⟨[], rfl, trivial⟩, tsize := ?_, tm := ?_, bsize := rfl, ob := fun l o r' ho hr => ?_, occ := fun l o r' b ho hr' hb => ?_, apart := fun l l' o o' r1 r' b h1 h2 h3 h4 h5 h6 => ?_, keep := Kept.refl _ _, frs := fun f hf => by simp at hf }
  · simp [irInit, aargs_len, hlen]; omega
  · intro i t hi
    cases i with
    | zero =>
      simp only [irInit, List.getElem?_cons_zero, Option.some.injEq] at hi
      subst hi
      refine ⟨r, A, cp, rfl, ?_, hle, hsl⟩
      rw [Array.getD_eq_getD_getElem?, Array.getElem?_append_left (by simp)]
      simp
    | succ i =>
      simp only [irInit, List.getElem?_cons_succ] at hi
      by_cases hl : i < c.ps.length
      · rw [List.getElem?_append_left (by rw [aargs_len]; exact hl)] at hi
        obtain ⟨v, hv, hR⟩ := All2.get2 hA hi
        have : ((Value.slice A r.n cp :: args).toArray ++ Array.replicate (fn.ntmps - (Value.slice A r.n cp :: args).toArray.size) undef).getD (i + 1) undef = v := by
          rw [Array.getD_eq_getD_getElem?, Array.getElem?_append_left (by simpa [hlen] using hl)]
          simp [hv]
        show t.R w _ _ _ _
        rw [this]
        exact TV.R_mono (AV.R_mono (fun _ _ => rfl) hN' (fun b hb => hb.elim) (fun b hb => hb.elim) (fun l r h => by simp at h)) _ _ hR
      · rw [List.getElem?_append_right (by rw [aargs_len]; omega), aargs_len, List.getElem?_replicate] at hi
        split at hi
        · cases hi
          have : ((Value.slice A r.n cp :: args).toArray ++ Array.replicate (fn.ntmps - (Value.slice A r.n cp :: args).toArray.size) undef).getD (i + 1) undef = undef := by
            rw [Array.getD_eq_getD_getElem?, Array.getElem?_append_right (by simpa [hlen] using hl)]
            simp [Array.getElem?_replicate]
            split <;> rfl
          show undefTV.R w _ _ _ _
          rw [this]
          exact undefTV_R
        · simp at hi
  · obtain ⟨rfl, rfl, rfl⟩ := hob l o r' ho hr
    obtain ⟨p1, p2, p3, p4⟩ := hx
    refine ⟨p1, p2, p3, ?_⟩
    by_cases hreal : r'.real = true
    · simp only [hreal, if_true] at p4 ⊢
      obtain ⟨pre, mid, post, hh, hp, hrow, hcap⟩ := p4
      exact ⟨pre, mid, post, hh, hp, rows_weak (fun _ _ => rfl) (fun b hb => hN' b hb) hrow, hcap⟩
    · simp only [hreal] at p4 ⊢
      exact p4
  · obtain ⟨_, h2, rfl⟩ := hocc l o r' b ho hr' hb
    exact ⟨hr h2, .inr ⟨r, by simp, h2, rfl⟩⟩
  · obtain ⟨rfl, _, _⟩ := hocc l o r1 b h1 h2 h5
    obtain ⟨rfl, _, _⟩ := hocc l' o' r' b h3 h4 h6
    rfl

end

structure IRX (c : IRc) where
  x : PDen ((false, .sl c.k) :: c.ps)
  l : Nat
  fr : Bool

def IRc.dec (c : IRc) (h : Heap) : List TV → Option (IRX c)
  | .one (.vf l) :: ts => match decV h c.T c.k true (.vf l) with
    | some (xs, _) => match adec h false c.ps ts with
      | some (a, f) => some ⟨(xs, a), l, f⟩
      | none => none
    | none => match decV h c.T c.k false (.vf l) with
      | some (xs, _) => match adec h false c.ps ts with
        | some (a, _) => some ⟨(xs, a), l, false⟩
        | none => none
      | none => none
  | _ => none

def IRc.hd (c : IRc) : HD where
  X := IRX c
  Y := PDen ((false, .sl c.k) :: c.rs)
  dec := c.dec
  model X := c.model X.x
  out h _ X y := (h.set X.l (true, .vec c.T c.k y.1 X.fr) ++ (encMs X.fr c.rs c.ms h.length y.2).2.map fun o => (true, o), resTV (encMs X.fr c.rs c.ms h.length y.2).1)
  touch := some fun h ts => match c.dec h ts with
    | some X => [X.l]
    | none => []
  touches := by
    intro f hf h ts x y hd
    simp only [Option.some.injEq] at hf
    subst hf
    simp only [hd]
    refine ⟨by simp, fun l hl hn => ?_⟩
    have h1 : l ≠ x.l := fun e => hn (by simp [e])
    rw [List.getElem?_append_left (by simp [hl]), List.getElem?_set_ne (Ne.symm h1)]

theorem IRc.Sound.hd {P : Program} {f : FuncId} {c : IRc} (hc : c.Sound P f) : c.hd.Sound P f := by
  refine ⟨hc.1, fun X y hxy C s β a w ts vs h hvs hdec0 => ?_⟩
  have hdec : c.dec s.heap ts = some X := hdec0
  clear hdec0
  obtain ⟨y, z⟩ := y
  obtain ⟨⟨x, ar⟩, l, fr⟩ := X
  have hy1 : c.model (x, ar) = some (y, z) := hxy
  have main : ∃ ts' fl fa, ts = .one (.vf l) :: ts' ∧ hat s.heap l = .vec c.T c.k x fl ∧ adec s.heap false c.ps ts' = some (ar, fa) ∧ (fr = true → fl = true ∧ fa = true) := by
    unfold IRc.dec at hdec
    split at hdec
    rotate_left
    · simp at hdec
    rename_i l0 ts'
    split at hdec
    · rename_i xs o0 hd
      split at hdec
      rotate_left
      · simp at hdec
      rename_i a1 f1 ha
      simp only [Option.some.injEq, IRX.mk.injEq, Prod.mk.injEq] at hdec
      obtain ⟨⟨rfl, rfl⟩, rfl, rfl⟩ := hdec
      rcases decV_some hd with ⟨hbad, _⟩ | ⟨l1, fl, hl1, _, ho, hfl⟩
      · simp at hbad
      simp only [AV.vf.injEq] at hl1
      subst hl1
      exact ⟨ts', fl, _, rfl, ho, ha, fun h => ⟨hfl rfl, h⟩⟩
    · split at hdec
      rotate_left
      · simp at hdec
      rename_i xs o0 hd
      split at hdec
      rotate_left
      · simp at hdec
      rename_i a1 f1 ha
      simp only [Option.some.injEq, IRX.mk.injEq, Prod.mk.injEq] at hdec
      obtain ⟨⟨rfl, rfl⟩, rfl, rfl⟩ := hdec
      rcases decV_some hd with ⟨hbad, _⟩ | ⟨l1, fl, hl1, _, ho, hfl⟩
      · simp at hbad
      simp only [AV.vf.injEq] at hl1
      subst hl1
      exact ⟨ts', fl, f1, rfl, ho, ha, fun h => by simp at h⟩
  obtain ⟨ts', fl, fa, rfl, hvec, har, hfrx⟩ := main
  match vs, hvs with
  | v0 :: vs, hvs =>
  obtain ⟨hv0, hvs⟩ := hvs
  obtain ⟨ff, r, hl, hr, hR⟩ := h.obj hvec (by simp)
  obtain ⟨r', A, cp, hr', rfl, hle, hsl⟩ := hv0
  rw [hr] at hr'; cases hr'
  have hNd : ∀ b, Dec C s β w false fr b → b < w.heap.size ∧ Free s.heap β b := fun b hb => by
    cases fr with
    | true => exact ⟨hb.2.1, hb.2.2⟩
    | false => exact ⟨hb.2.1, hb.2.2⟩
  have hx' : (AObj.vec c.T c.k x false).R w (Dec C s β w false fr) (Dec C s β w false fr) [] r := by
    obtain ⟨p1, p2, p3, p4⟩ := hR
    refine ⟨p1, p2, p3, ?_⟩
    by_cases hreal : r.real = true
    · simp only [hreal, if_true] at p4 ⊢
      obtain ⟨pre, mid, post, hh, hp, hrow, hcap⟩ := p4
      refine ⟨pre, mid, post, hh, hp, rows_weak (fun _ _ => rfl) (fun b hb => ?_) hrow, hcap⟩
      cases fr with
      | true =>
        have := (hfrx rfl).1
        subst this
        exact hb
      | false =>
        cases fl with
        | true => exact Cx.fresh_N hb
        | false => exact hb
    · simp only [hreal] at p4 ⊢
      exact p4
  have hargs : argsR w (Dec C s β w false fr) c.ps ar vs := argsR_mono (fun _ _ => rfl) (fun b hb => hb.weak (fun h => (hfrx h).2)) (adec_sound h hvs har)
  have hin : ∀ b, InD [r] b → b ∈ (AObj.vec c.T c.k x fl).occ r := by
    rintro b ⟨r1, hr1, hreal, rfl⟩
    have hr1 : r1 = r := by simpa using hr1
    subst hr1
    simp [AObj.occ, hreal]
  refine (hc.2 x ar y z hy1 w (Dec C s β w false fr) r A cp vs hle hsl hx' (fun hreal => (h.occ l _ r r.blk hl hr (by simp [AObj.occ, hreal])).1) (fun b hb => ?_) hargs).mono ?_
  · obtain ⟨h1, h2⟩ := hNd b hb
    exact ⟨h1, fun hi => h2 l _ r hl hr (hin b hi)⟩
  rintro e' w' ⟨v, δ', rfl, hk, hR', hap', hδ', us, rfl, hres⟩
  have hks := h.keep.size
  obtain ⟨e1, e2, e3⟩ := argsM_enc fr c.rs c.ms z us δ' s.heap.length hres
  generalize hobj : (encMs fr c.rs c.ms s.heap.length z).2 = objs at e1 e2
  generalize hcel : (encMs fr c.rs c.ms s.heap.length z).1 = comps at e3
  let h' : Heap := s.heap.set l (true, .vec c.T c.k y fr) ++ objs.map fun o => (true, o)
  have hlen0 : (s.heap.set l (true, AObj.vec c.T c.k y fr)).length = s.heap.length := by simp
  have hll : l < s.heap.length := (List.getElem?_eq_some_iff.1 hl).1
  have hget : ∀ (l1 : Nat) (o : Bool × AObj) (r1 : Bl), h'[l1]? = some o → (β ++ δ')[l1]? = some r1 →
      (l1 = l ∧ o = (true, .vec c.T c.k y fr) ∧ r1 = r) ∨ (l1 ≠ l ∧ s.heap[l1]? = some o ∧ β[l1]? = some r1) ∨ (∃ i, l1 = s.heap.length + i ∧ δ'[i]? = some r1 ∧ Handed w' (irN w w' (Dec C s β w false fr) (r :: δ')) fr o.2 r1) := by
    intro l1 o r1 ho hr1
    by_cases h1 : l1 < s.heap.length
    · have ho : (s.heap.set l (true, AObj.vec c.T c.k y fr))[l1]? = some o := by
        have ho : ((s.heap.set l (true, AObj.vec c.T c.k y fr)) ++ _)[l1]? = some o := ho
        rwa [List.getElem?_append_left (by rw [hlen0]; exact h1)] at ho
      rw [List.getElem?_append_left (by rw [h.bsize]; exact h1)] at hr1
      by_cases e : l1 = l
      · subst e
        rw [List.getElem?_set_self h1] at ho
        simp only [Option.some.injEq] at ho
        rw [hr] at hr1
        simp only [Option.some.injEq] at hr1
        exact .inl ⟨rfl, ho.symm, hr1.symm⟩
      · rw [List.getElem?_set_ne (Ne.symm e)] at ho
        exact .inr (.inl ⟨e, ho, hr1⟩)
    · have ho : (objs.map fun o => ((true, o) : Bool × AObj))[l1 - s.heap.length]? = some o := by
        have ho : ((s.heap.set l (true, AObj.vec c.T c.k y fr)) ++ objs.map fun o => ((true, o) : Bool × AObj))[l1]? = some o := ho
        rwa [List.getElem?_append_right (by rw [hlen0]; omega), hlen0] at ho
      rw [List.getElem?_append_right (by rw [h.bsize]; omega), h.bsize] at hr1
      rw [List.getElem?_map] at ho
      obtain ⟨o', ho', rfl⟩ := Option.map_eq_some_iff.1 ho
      exact .inr (.inr ⟨l1 - s.heap.length, by omega, hr1, e2 _ _ _ ho' hr1⟩)
  have hocc0 : ∀ b, b ∈ (AObj.vec c.T c.k y fr).occ r → r.real = true ∧ b = r.blk := fun b hb => by
    simp only [AObj.occ] at hb
    split at hb
    · rename_i hreal; exact ⟨hreal, by simpa using hb⟩
    · simp at hb
  have reach : ∀ b, irN w w' (Dec C s β w false fr) (r :: δ') b → (if fr then C.fresh h' (β ++ δ') w' else C.N h' (β ++ δ') w') b := by
    rintro b ⟨hb, hbD⟩
    have hfree : (w.heap.size ≤ b ∨ Free s.heap β b) → Free h' (β ++ δ') b := by
      intro hor l1 o r1 ho hr1 hbo
      rcases hget l1 o r1 ho hr1 with ⟨rfl, rfl, rfl⟩ | ⟨_, g1, g2⟩ | ⟨i, _, g2, g3⟩
      · obtain ⟨hreal, hb2⟩ := hocc0 b hbo
        exact hbD ⟨r1, by simp, hreal, hb2⟩
      · rcases hor with hge | hfr2
        · have := (h.occ l1 o r1 b g1 g2 hbo).1; omega
        · exact hfr2 l1 o r1 g1 g2 hbo
      · obtain ⟨hreal, hb2⟩ := handed_occ g3 hbo
        exact hbD ⟨r1, by simp [List.mem_of_getElem? g2], hreal, hb2⟩
    cases fr with
    | true =>
      rcases hb with hb | hb
      · exact ⟨hb.1, by have := hb.2.1; have := hk.size; omega, hfree (.inr hb.2.2)⟩
      · exact ⟨by omega, hb.2, hfree (.inl hb.1)⟩
    | false =>
      rcases hb with hb | hb
      · exact ⟨hb.1, by have := hb.2.1; have := hk.size; omega, hfree (.inr hb.2.2)⟩
      · exact ⟨.inr (by omega), hb.2, hfree (.inl hb.1)⟩
  have hvecR : (AObj.vec c.T c.k y fr).R w' (C.N h' (β ++ δ') w') (C.fresh h' (β ++ δ') w') (β ++ δ') r := handed_R (fr := fr) ⟨c.T, c.k, y, rfl, hR'⟩ (fun b hb => reach b hb)
  have hgen := h.gen (hdr := hk.drawn) h' δ' w' (fun l1 => l1 = l) hk.os hk.tape hk.output hk.size (by simp [h', e1])
    (fun l1 o ho hn => ⟨o, by
      show ((s.heap.set l (true, AObj.vec c.T c.k y fr)) ++ _)[l1]? = some o
      rw [List.getElem?_append_left (by rw [hlen0]; exact (List.getElem?_eq_some_iff.1 ho).1), List.getElem?_set_ne (fun e => hn e.symm)]; exact ho, rfl⟩)
    (fun l1 _ ho => by
      have h1 : l1 ≠ l := fun e => by subst e; rw [hl] at ho; simp at ho
      show ((s.heap.set l (true, AObj.vec c.T c.k y fr)) ++ _)[l1]? = _
      rw [List.getElem?_append_left (by rw [hlen0]; exact (List.getElem?_eq_some_iff.1 ho).1), List.getElem?_set_ne (Ne.symm h1)]; exact ho)
    (fun b hb hx => hk.block b hb (fun hF => hx l _ r hl hr rfl (hin b hF)))
    (fun l1 o r1 b ho hr1 hch hbo => by
      rcases hget l1 o r1 ho hr1 with ⟨rfl, rfl, rfl⟩ | ⟨h1, g1, g2⟩ | ⟨i, _, g2, g3⟩
      · obtain ⟨hreal, rfl⟩ := hocc0 b hbo
        have hb' := (h.occ l1 _ r1 r1.blk hl hr (by simp [AObj.occ, hreal])).1
        exact ⟨Nat.lt_of_lt_of_le hb' hk.size, .inr ⟨_, _, r1, hl, hr, rfl, by simp [AObj.occ, hreal]⟩⟩
      · rcases hch with hch | hch
        · exact absurd hch h1
        · have := (List.getElem?_eq_some_iff.1 g1).1; omega
      · obtain ⟨hreal, rfl⟩ := handed_occ g3 hbo
        have := hδ' r1 (List.mem_of_getElem? g2) hreal
        exact ⟨this.1, .inl this.2⟩)
    (fun l1 l2 o1 o2 r1 r2 b ho1 hr1 ho2 hr2 hch1 hch2 hb1 hb2 => by
      have cls : ∀ (l1 : Nat) (o : Bool × AObj) (r1 : Bl), h'[l1]? = some o → (β ++ δ')[l1]? = some r1 → (l1 = l ∨ s.heap.length ≤ l1) → b ∈ o.2.occ r1 → (l1 = l ∧ r.real = true ∧ b = r.blk) ∨ ∃ i, l1 = s.heap.length + i ∧ δ'[i]? = some r1 ∧ r1.real = true ∧ b = r1.blk := by
        intro l1 o r1 ho hr1 hch hbo
        rcases hget l1 o r1 ho hr1 with ⟨rfl, rfl, rfl⟩ | ⟨h1, g1, g2⟩ | ⟨i, hi, g2, g3⟩
        · exact .inl ⟨rfl, hocc0 b hbo⟩
        · rcases hch with hch | hch
          · exact absurd hch h1
          · have := (List.getElem?_eq_some_iff.1 g1).1; omega
        · obtain ⟨hreal, hb⟩ := handed_occ g3 hbo
          exact .inr ⟨i, hi, g2, hreal, hb⟩
      rcases cls l1 o1 r1 ho1 hr1 hch1 hb1 with ⟨rfl, hre, rfl⟩ | ⟨i, rfl, hi, hreal, rfl⟩
      · rcases cls l2 o2 r2 ho2 hr2 hch2 hb2 with ⟨rfl, _⟩ | ⟨j, rfl, hj, hreal', hb⟩
        · rfl
        · have := hap' 0 (j + 1) r r2 rfl (by simpa using hj) hre hreal' hb
          omega
      · rcases cls l2 o2 r2 ho2 hr2 hch2 hb2 with ⟨rfl, hre, hb⟩ | ⟨j, rfl, hj, hreal', hb⟩
        · have := hap' 0 (i + 1) r r1 rfl (by simpa using hi) hre hreal hb.symm
          omega
        · have := hap' (i + 1) (j + 1) r1 r2 (by simpa using hi) (by simpa using hj) hreal hreal' hb
          have : i = j := by omega
          rw [this])
    (fun l1 o r1 ho hr1 hch _ _ _ _ => by
      rcases hget l1 o r1 ho hr1 with ⟨rfl, rfl, rfl⟩ | ⟨h1, g1, g2⟩ | ⟨i, hi, g2, g3⟩
      · exact hvecR
      · rcases hch with hch | hch
        · exact absurd hch h1
        · have := (List.getElem?_eq_some_iff.1 g1).1; omega
      · exact handed_R g3 (fun b hb => reach b hb))
  obtain ⟨h2, mv⟩ := hgen
  refine ⟨_, β ++ δ', rfl, ?_, ?_, ⟨δ', rfl⟩, ?_, fun l1 o hl1 ho => ?_, fun l1 ho => ?_⟩
  · show Rel C { s with heap := s.heap.set l (true, .vec c.T c.k y fr) ++ (encMs fr c.rs c.ms s.heap.length z).2.map fun o => (true, o) } (β ++ δ') a w'
    rw [hobj]; exact h2
  · show TV.R w' (C.N (s.heap.set l (true, .vec c.T c.k y fr) ++ (encMs fr c.rs c.ms s.heap.length z).2.map fun o => (true, o)) (β ++ δ') w') (C.fresh (s.heap.set l (true, .vec c.T c.k y fr) ++ (encMs fr c.rs c.ms s.heap.length z).2.map fun o => (true, o)) (β ++ δ') w') (β ++ δ') (resTV (encMs fr c.rs c.ms s.heap.length z).1) _
    rw [hobj, hcel]
    refine resTV_R (e3 (C.N h' (β ++ δ') w') (C.fresh h' (β ++ δ') w') (β ++ δ') (fun b hb => ?_) fun i r1 hi => by rw [← h.bsize, List.getElem?_append_right (by omega)]; simpa using hi)
    exact reach b hb
  · show _ ≤ ((s.heap.set l _) ++ _).length
    simp
  · have ho : ((s.heap.set l (true, .vec c.T c.k y fr)) ++ (encMs fr c.rs c.ms s.heap.length z).2.map fun o => ((true, o) : Bool × AObj))[l1]? = some (false, o) := ho
    rw [List.getElem?_append_left (by simpa using hl1)] at ho
    by_cases e : l1 = l
    · subst e
      rw [List.getElem?_set_self hl1] at ho
      simp at ho
    · rwa [List.getElem?_set_ne (Ne.symm e)] at ho
  · show ((s.heap.set l (true, .vec c.T c.k y fr)) ++ (encMs fr c.rs c.ms s.heap.length z).2.map fun o => ((true, o) : Bool × AObj))[l1]? = some (true, .mark)
    have h1 : l1 ≠ l := fun e => by subst e; rw [hl] at ho; simp at ho
    rw [List.getElem?_append_left (by simpa using (List.getElem?_eq_some_iff.1 ho).1), List.getElem?_set_ne (Ne.symm h1)]; exact ho
end Go.Proofs.AM
end

section
namespace Go.Proofs.AM
open Go Go.RowKit

structure COc where
  T : TypeId
  k : K
  ps : List (Bool × K)
  model : PDen ((false, .sl k) :: ps) → Option (List k.den)

def coR (w w' : World) (N : Nat → Prop) (r : Bl) (T : TypeId) (k : K) (xs : List k.den) (v : Value) (r2 : Bl) : Prop :=
  ∃ A c, v = .slice A r2.n c ∧ r2.n ≤ c ∧ r2.slice A 0 r2.n c ∧ (r2.real = true → r2.blk < w'.heap.size ∧ (w.heap.size ≤ r2.blk ∨ InD [r] r2.blk)) ∧
    (AObj.vec T k xs false).R w' (irN w w' N [r2]) (irN w w' N [r2]) [] r2

def COc.Sound (P : Program) (f : FuncId) (c : COc) : Prop :=
  (∀ args w, (callFunc f args).run P w = .ok (.enter f args) w) ∧
  ∀ (x : List c.k.den) (a : PDen c.ps) (y : List c.k.den), c.model (x, a) = some y → ∀ (w : World) (N : Nat → Prop) (r : Bl) (A : Option Addr) (cp : Nat) (args : List Value),
    r.n ≤ cp → r.slice A 0 r.n cp → (AObj.vec c.T c.k x false).R w N N [] r → (r.real = true → r.blk < w.heap.size) →
    (∀ b, N b → b < w.heap.size ∧ ¬ InD [r] b) → argsR w N c.ps a args →
    Calls P f (Value.slice A r.n cp :: args).toArray w fun e w' => ∃ v r2, e = .returned v ∧ Kept (InD [r]) w w' ∧ coR w w' N r c.T c.k y v r2

def afinCO (P : Program) (fn : Func) (T : TypeId) (k : K) (s : AS) : Option (List k.den) :=
  match aresults P s fn.results.toList with
  | some [.one a] => match decV s.heap T k false a with
    | some (xs, _) => some xs
    | none => none
  | _ => none

def coInit (fn : Func) (T : TypeId) (k : K) (ps : List (Bool × K)) (x : PDen ((false, .sl k) :: ps)) : AS :=
  match k.flat with
  | true => (irInit fn ⟨T, k, ps, [], [], fun _ => none⟩ x).upd 0 (.vec T k x.1 true)
  | false => irInit fn ⟨T, k, ps, [], [], fun _ => none⟩ x

noncomputable def afunCO (P : Program) (Γ : Env) (an : Ann) (fn : Func) (T : TypeId) (k : K) (ps : List (Bool × K)) (x : PDen ((false, .sl k) :: ps)) : Option (List k.den) :=
  match fn.body with
  | none => none
  | some code => arun P Γ an code (List k.den) none 0 (coInit fn T k ps x)
      { norm := aendI 1 (afinCO P fn T k), exit := fun _ _ => none, ret := aendI 1 (afinCO P fn T k) }

section
variable {P : Program} {Γ : Env}

theorem flat_step {C : Cx} {s : AS} {β : List Bl} {a : Act} {w : World} (h : Rel C s β a w) {l : Nat} {f : Bool} {T : TypeId} {q : K} {xs : List q.den} {fr : Bool} (hq : q.flat = true) (hf : s.heap[l]? = some (f, .vec T q xs fr)) : Rel C (s.upd l (.vec T q xs true)) β a w := by
  have hl := (List.getElem?_eq_some_iff.1 hf).1
  obtain ⟨rr, hr⟩ : ∃ r, β[l]? = some r := ⟨_, List.getElem?_eq_getElem (by rw [h.bsize]; exact hl)⟩
  obtain ⟨g1, g2, g3, g4⟩ := h.ob l _ rr hf hr
  refine (h.upd l _ (.vec T q xs true) rr hf hr rfl rfl rfl (Nat.le_refl _) (fun _ _ _ => rfl) (by simp) (fun b hb => hb) (fun mv hN hNf hbl => ?_)).1
  refine ⟨g1, g2, g3, ?_⟩
  by_cases hreal : rr.real = true
  · simp only [hreal, if_true] at g4 ⊢
    obtain ⟨pre, mid, post, hh, hp, hrow, hcap⟩ := g4
    exact ⟨pre, mid, post, hh, hp, rows_flat hq hrow, hcap⟩
  · simp only [hreal] at g4 ⊢
    exact g4

theorem afunCO_sound (hΓ : Γ.Sound P) (hyl : Γ.yl = []) (hm : P.follows .mixedOrders = true) {an : Ann} {f : FuncId} {fn : Func} (hf : P.funcs[f]? = some fn) (hn : (fn.name == "runtime.NumGoroutine") = false) {c : COc} {code : Code} (hbody : fn.body = some code)
    (hmod : ∀ x y, c.model x = some y → afunCO P Γ an fn c.T c.k c.ps x = some y) (hi : (Γ.imm.any fun i => Nat.ble 300000 i) = false := by rfl) : c.Sound P f := by
  refine ⟨fun args w => ?_, fun x a y hxy w N r A cp args hle hsl hx hr hN hargs => ?_⟩
  · have h1 : fn.name ≠ "runtime.NumGoroutine" := by simpa using hn
    simp [callFunc, hf, h1, hbody, mark]
  · have e := hmod (x, a) y hxy
    simp only [afunCO, hbody] at e
    have hrel0 := irinit_rel (fn := fn) (c := ⟨c.T, c.k, c.ps, [], [], fun _ => none⟩) hle hsl hx hr hN hargs
    have hrel : Rel ⟨w, N, InD [r], []⟩ (coInit fn c.T c.k c.ps (x, a)) [r] { tmps := (Value.slice A r.n cp :: args).toArray ++ Array.replicate (fn.ntmps - (Value.slice A r.n cp :: args).toArray.size) undef, defers := [] } w := by
      unfold coInit
      split
      · rename_i hq
        exact flat_step hrel0 hq rfl
      · exact hrel0
    have hlen : (coInit fn c.T c.k c.ps (x, a)).heap.length = 1 := by
      unfold coInit
      split
      · simp [AS.upd, irInit]
      · rfl
    have hmk : (coInit fn c.T c.k c.ps (x, a)).marks = [] := by
      unfold coInit
      split <;> rfl
    refine ((body_coreI hΓ hm hf hbody hrel 1 (by simp) (by simp [hlen, hmk]) (by rw [hyl]; exact YOK.nil _ _ _) (Env.NF.of hi) e (S := fun v w' => ∃ r2, Kept (InD [r]) w w' ∧ coR w w' N r c.T c.k y v r2) ?_)).mono ?_
    · intro s β a' w' hG h hgr
      unfold afinCO at hG
      split at hG
      rotate_left
      · simp at hG
      rename_i av hts
      obtain ⟨vs, e1, e2⟩ := aresults_sound h hts
      match vs, e2 with
      | [v], e2 =>
        have hv : av.R w' _ _ β v := e2.1
        split at hG
        rotate_left
        · simp at hG
        rename_i xs l hd
        simp only [Option.some.injEq] at hG
        subst hG
        rcases decV_some hd with ⟨rfl, rfl, rfl⟩ | ⟨m, fl, rfl, rfl, ho, hfl⟩
        · have hv : v = .slice none 0 0 := hv
          subst hv
          exact ⟨_, by simpa using results_run e1, ⟨0, 0, c.k.size, 0, 0, false, none, []⟩, h.keep, none, 0, rfl, Nat.le_refl _, .inr ⟨rfl, rfl⟩, fun h => by simp at h, rfl, rfl, Nat.le_refl _, rfl⟩
        · obtain ⟨ff, r2, g1, g2, g3, g4, g5, g6⟩ := h.obj ho (by simp)
          obtain ⟨r', A, cc, q1, q2, q3, q4⟩ := hv
          rw [g2] at q1; cases q1
          refine ⟨v, by simpa using results_run e1, r2, h.keep, A, cc, q2, q3, q4, fun hreal => ?_, g3, g4, g5, ?_⟩
          · exact h.occ m _ r2 r2.blk g1 g2 (by simp [AObj.occ, hreal])
          · by_cases hreal : r2.real = true
            · simp only [hreal, if_true] at g6 ⊢
              obtain ⟨pre, mid, post, hh, hp, hrow, hcap⟩ := g6
              refine ⟨pre, mid, post, hh, hp, rows_weak (fun _ _ => rfl) (fun b hb => ?_) hrow, hcap⟩
              have key : Cx.N ⟨w, N, InD [r], []⟩ s.heap β w' b := by
                cases fl with
                | true => exact Cx.fresh_N hb
                | false => exact hb
              refine ⟨?_, fun hin => ?_⟩
              · rcases key.1 with h1 | h1
                · exact .inl h1
                · exact .inr ⟨h1, key.2.1⟩
              · obtain ⟨r1, hr1, hre1, hbb⟩ := hin
                have hr1 : r1 = r2 := by simpa using hr1
                subst hr1
                exact key.2.2 m _ r1 g1 g2 (by simp [AObj.occ, hreal, hbb])
            · simp only [hreal] at g6 ⊢
              exact g6
    · rintro e' w' ⟨v, rfl, r2, h1⟩
      exact ⟨v, r2, rfl, h1⟩
theorem afunCO_sound' (hΓ : Γ.Sound P) (hyl : Γ.yl = []) (hm : P.follows .mixedOrders = true) {an : Ann} {f : FuncId} {fn : Func} (hf : P.funcs[f]? = some fn) (hn : (fn.name == "runtime.NumGoroutine") = false) (hbody : fn.body.isSome = true) {T : TypeId} {k : K} {ps : List (Bool × K)}
    {model : PDen ((false, .sl k) :: ps) → Option (List k.den)} (hmod : (fun x => afunCO P Γ an fn T k ps x) = model) (hi : (Γ.imm.any fun i => Nat.ble 300000 i) = false := by rfl) : (COc.mk T k ps model).Sound P f := by
  obtain ⟨c, hc⟩ := Option.isSome_iff_exists.1 hbody
  exact afunCO_sound hΓ hyl hm hf hn hc (fun x y h => by rw [← hmod] at h; exact h) hi
end

structure COX (c : COc) where
  x : PDen ((false, .sl c.k) :: c.ps)
  l : Option Nat
  fr : Bool

def killO (h : Heap) : Option Nat → Heap
  | none => h
  | some l => h.set l (true, .dead)

def COc.dec (c : COc) (h : Heap) : List TV → Option (COX c)
  | .one .nilsl :: ts => match adec h false c.ps ts with
    | some (a, f) => some ⟨([], a), none, f⟩
    | none => none
  | .one (.vf l) :: ts => match decV h c.T c.k true (.vf l) with
    | some (xs, _) => match adec h false c.ps ts with
      | some (a, f) => some ⟨(xs, a), some l, f⟩
      | none => none
    | none => match decV h c.T c.k false (.vf l) with
      | some (xs, _) => match adec h false c.ps ts with
        | some (a, _) => some ⟨(xs, a), some l, false⟩
        | none => none
      | none => none
  | _ => none

theorem killO_len (h : Heap) (l : Option Nat) : (killO h l).length = h.length := by
  cases l with
  | none => rfl
  | some l => simp [killO]

theorem killO_get {h : Heap} {l : Option Nat} {l1 : Nat} (hn : l ≠ some l1) : (killO h l)[l1]? = h[l1]? := by
  cases l with
  | none => rfl
  | some l => exact List.getElem?_set_ne (fun e => hn (by rw [e]))

def COc.hd (c : COc) : HD where
  X := COX c
  Y := List c.k.den
  dec := c.dec
  model X := c.model X.x
  out h _ X y := (killO h X.l ++ [(true, .vec c.T c.k y X.fr)], .one (.vf h.length))
  touch := some fun h ts => match c.dec h ts with
    | some X => X.l.toList
    | none => []
  touches := by
    intro f hf h ts x y hd
    simp only [Option.some.injEq] at hf
    subst hf
    simp only [hd]
    refine ⟨by simp [killO_len], fun l hl hn => ?_⟩
    rw [List.getElem?_append_left (by rw [killO_len]; exact hl), killO_get (fun e => hn (by simp [e]))]

theorem COc.Sound.hd {P : Program} {f : FuncId} {c : COc} (hc : c.Sound P f) : c.hd.Sound P f := by
  refine ⟨hc.1, fun X y hxy C s β a w ts vs h hvs hdec0 => ?_⟩
  have hdec : c.dec s.heap ts = some X := hdec0
  clear hdec0
  obtain ⟨⟨x, ar⟩, l, fr⟩ := X
  have hy1 : c.model (x, ar) = some y := hxy
  /- the row that is handed in -/
  have main : ∃ ts' v0 vs' r A cp fa, vs = v0 :: vs' ∧ v0 = .slice A r.n cp ∧ r.n ≤ cp ∧ r.slice A 0 r.n cp ∧ adec s.heap false c.ps ts' = some (ar, fa) ∧ All2 (TV.R w (C.N s.heap β w) (C.fresh s.heap β w) β) ts' vs' ∧ (fr = true → fa = true) ∧
      (AObj.vec c.T c.k x false).R w (Dec C s β w false fr) (Dec C s β w false fr) [] r ∧ (∀ l1, l = some l1 → ∃ ff fl, s.heap[l1]? = some (ff, .vec c.T c.k x fl) ∧ β[l1]? = some r) ∧ (l = none → r.real = false) := by
    unfold COc.dec at hdec
    split at hdec
    · rename_i ts'
      split at hdec
      rotate_left
      · simp at hdec
      rename_i a1 f1 ha
      simp only [Option.some.injEq, COX.mk.injEq, Prod.mk.injEq] at hdec
      obtain ⟨⟨rfl, rfl⟩, rfl, rfl⟩ := hdec
      match vs, hvs with
      | v0 :: vs, hvs =>
      obtain ⟨hv0, hvs⟩ := hvs
      have hv0 : v0 = .slice none 0 0 := hv0
      exact ⟨ts', v0, vs, ⟨0, 0, c.k.size, 0, 0, false, none, []⟩, none, 0, _, rfl, hv0, Nat.le_refl _, .inr ⟨rfl, rfl⟩, ha, hvs, id, ⟨rfl, rfl, Nat.le_refl _, rfl⟩, fun l1 e => by simp at e, fun _ => rfl⟩
    · rename_i l0 ts'
      have main2 : ∃ fl fa, l = some l0 ∧ hat s.heap l0 = .vec c.T c.k x fl ∧ adec s.heap false c.ps ts' = some (ar, fa) ∧ (fr = true → fl = true ∧ fa = true) := by
        split at hdec
        · rename_i xs o0 hd
          split at hdec
          rotate_left
          · simp at hdec
          rename_i a1 f1 ha
          simp only [Option.some.injEq, COX.mk.injEq, Prod.mk.injEq] at hdec
          obtain ⟨⟨rfl, rfl⟩, rfl, rfl⟩ := hdec
          rcases decV_some hd with ⟨hbad, _⟩ | ⟨l1, fl, hl1, _, ho, hfl⟩
          · simp at hbad
          simp only [AV.vf.injEq] at hl1
          subst hl1
          exact ⟨fl, _, rfl, ho, ha, fun h => ⟨hfl rfl, h⟩⟩
        · split at hdec
          rotate_left
          · simp at hdec
          rename_i xs o0 hd
          split at hdec
          rotate_left
          · simp at hdec
          rename_i a1 f1 ha
          simp only [Option.some.injEq, COX.mk.injEq, Prod.mk.injEq] at hdec
          obtain ⟨⟨rfl, rfl⟩, rfl, rfl⟩ := hdec
          rcases decV_some hd with ⟨hbad, _⟩ | ⟨l1, fl, hl1, _, ho, hfl⟩
          · simp at hbad
          simp only [AV.vf.injEq] at hl1
          subst hl1
          exact ⟨fl, f1, rfl, ho, ha, fun h => by simp at h⟩
      obtain ⟨fl, fa, rfl, hvec, har, hfrx⟩ := main2
      match vs, hvs with
      | v0 :: vs, hvs =>
      obtain ⟨hv0, hvs⟩ := hvs
      obtain ⟨ff, r, hl, hr, hR⟩ := h.obj hvec (by simp)
      obtain ⟨r', A, cp, hr', rfl, hle, hsl⟩ := hv0
      rw [hr] at hr'; cases hr'
      refine ⟨ts', _, vs, r, A, cp, fa, rfl, rfl, hle, hsl, har, hvs, fun h => (hfrx h).2, ?_, fun l1 e => ?_, fun e => by simp at e⟩
      · obtain ⟨p1, p2, p3, p4⟩ := hR
        refine ⟨p1, p2, p3, ?_⟩
        by_cases hreal : r.real = true
        · simp only [hreal, if_true] at p4 ⊢
          obtain ⟨pre, mid, post, hh, hp, hrow, hcap⟩ := p4
          refine ⟨pre, mid, post, hh, hp, rows_weak (fun _ _ => rfl) (fun b hb => ?_) hrow, hcap⟩
          cases fr with
          | true =>
            have := (hfrx rfl).1
            subst this
            exact hb
          | false =>
            cases fl with
            | true => exact Cx.fresh_N hb
            | false => exact hb
        · simp only [hreal] at p4 ⊢
          exact p4
      · simp only [Option.some.injEq] at e
        subst e
        exact ⟨ff, fl, hl, hr⟩
    · simp at hdec
  obtain ⟨ts', v0, vs', r, A, cp, fa, rfl, rfl, hle, hsl, har, hvs', hfa, hx', hlr, hln⟩ := main
  have hNd : ∀ b, Dec C s β w false fr b → b < w.heap.size ∧ Free s.heap β b := fun b hb => by
    cases fr with
    | true => exact ⟨hb.2.1, hb.2.2⟩
    | false => exact ⟨hb.2.1, hb.2.2⟩
  have hargs : argsR w (Dec C s β w false fr) c.ps ar vs' := argsR_mono (fun _ _ => rfl) (fun b hb => hb.weak (fun h => hfa h)) (adec_sound h hvs' har)
  have hreal1 : r.real = true → ∃ l1 ff fl, l = some l1 ∧ s.heap[l1]? = some (ff, .vec c.T c.k x fl) ∧ β[l1]? = some r := fun hre => by
    cases l with
    | none => rw [hln rfl] at hre; simp at hre
    | some l1 => obtain ⟨ff, fl, h1, h2⟩ := hlr l1 rfl; exact ⟨l1, ff, fl, rfl, h1, h2⟩
  have hin : ∀ b, InD [r] b → ∃ l1 ff fl, l = some l1 ∧ s.heap[l1]? = some (ff, .vec c.T c.k x fl) ∧ β[l1]? = some r ∧ b ∈ (AObj.vec c.T c.k x fl).occ r := by
    rintro b ⟨r1, hr1, hreal, rfl⟩
    have hr1 : r1 = r := by simpa using hr1
    subst hr1
    obtain ⟨l1, ff, fl, h0, h1, h2⟩ := hreal1 hreal
    exact ⟨l1, ff, fl, h0, h1, h2, by simp [AObj.occ, hreal]⟩
  refine (hc.2 x ar y hy1 w (Dec C s β w false fr) r A cp vs' hle hsl hx' (fun hreal => ?_) (fun b hb => ?_) hargs).mono ?_
  · obtain ⟨l1, ff, fl, _, h1, h2⟩ := hreal1 hreal
    exact (h.occ l1 _ r r.blk h1 h2 (by simp [AObj.occ, hreal])).1
  · obtain ⟨h1, h2⟩ := hNd b hb
    refine ⟨h1, fun hi => ?_⟩
    obtain ⟨l1, ff, fl, _, g1, g2, g3⟩ := hin b hi
    exact h2 l1 _ r g1 g2 g3
  rintro e' w' ⟨v, r2, rfl, hk, A2, c2, rfl, hle2, hsl2, hocc2, hR2⟩
  have hks := h.keep.size
  let h' : Heap := killO s.heap l ++ [(true, .vec c.T c.k y fr)]
  have hlen0 := killO_len s.heap l
  have hocc0 : ∀ b, b ∈ (AObj.vec c.T c.k y fr).occ r2 → r2.real = true ∧ b = r2.blk := fun b hb => by
    simp only [AObj.occ] at hb
    split at hb
    · rename_i hreal; exact ⟨hreal, by simpa using hb⟩
    · simp at hb
  have hget : ∀ (l1 : Nat) (o : Bool × AObj) (r1 : Bl), h'[l1]? = some o → (β ++ [r2])[l1]? = some r1 →
      (l = some l1 ∧ o = (true, .dead)) ∨ (l ≠ some l1 ∧ l1 < s.heap.length ∧ s.heap[l1]? = some o ∧ β[l1]? = some r1) ∨ (l1 = s.heap.length ∧ o = (true, .vec c.T c.k y fr) ∧ r1 = r2) := by
    intro l1 o r1 ho hr1
    by_cases h1 : l1 < s.heap.length
    · have ho : (killO s.heap l)[l1]? = some o := by
        have ho : (killO s.heap l ++ [(true, AObj.vec c.T c.k y fr)])[l1]? = some o := ho
        rwa [List.getElem?_append_left (by rw [hlen0]; exact h1)] at ho
      rw [List.getElem?_append_left (by rw [h.bsize]; exact h1)] at hr1
      by_cases e : l = some l1
      · subst e
        have ho : (s.heap.set l1 (true, AObj.dead))[l1]? = some o := ho
        rw [List.getElem?_set_self h1] at ho
        exact .inl ⟨rfl, by simpa using ho.symm⟩
      · rw [killO_get e] at ho
        exact .inr (.inl ⟨e, h1, ho, hr1⟩)
    · have hl' : l1 = s.heap.length := by
        have := (List.getElem?_eq_some_iff.1 ho).1
        have h2 : h'.length = s.heap.length + 1 := by show (killO s.heap l ++ _).length = _; rw [List.length_append, hlen0]; rfl
        omega
      subst hl'
      refine .inr (.inr ⟨rfl, ?_, ?_⟩)
      · have ho : (killO s.heap l ++ [(true, AObj.vec c.T c.k y fr)])[s.heap.length]? = some o := ho
        rw [List.getElem?_append_right (by rw [hlen0]; exact Nat.le_refl _), hlen0, Nat.sub_self] at ho
        simpa using ho.symm
      · rw [← h.bsize] at hr1; simpa using hr1.symm
  have reach : ∀ b, irN w w' (Dec C s β w false fr) [r2] b → (if fr then C.fresh h' (β ++ [r2]) w' else C.N h' (β ++ [r2]) w') b := by
    rintro b ⟨hb, hbD⟩
    have hfree : (w.heap.size ≤ b ∨ Free s.heap β b) → Free h' (β ++ [r2]) b := by
      intro hor l1 o r1 ho hr1 hbo
      rcases hget l1 o r1 ho hr1 with ⟨_, rfl⟩ | ⟨_, _, g1, g2⟩ | ⟨_, rfl, rfl⟩
      · simp [AObj.occ] at hbo
      · rcases hor with hge | hfr2
        · have := (h.occ l1 o r1 b g1 g2 hbo).1; omega
        · exact hfr2 l1 o r1 g1 g2 hbo
      · obtain ⟨hreal, hb2⟩ := hocc0 b hbo
        exact hbD ⟨r1, by simp, hreal, hb2⟩
    cases fr with
    | true =>
      rcases hb with hb | hb
      · exact ⟨hb.1, by have := hb.2.1; have := hk.size; omega, hfree (.inr hb.2.2)⟩
      · exact ⟨by omega, hb.2, hfree (.inl hb.1)⟩
    | false =>
      rcases hb with hb | hb
      · exact ⟨hb.1, by have := hb.2.1; have := hk.size; omega, hfree (.inr hb.2.2)⟩
      · exact ⟨.inr (by omega), hb.2, hfree (.inl hb.1)⟩
  have hvecR : (AObj.vec c.T c.k y fr).R w' (C.N h' (β ++ [r2]) w') (C.fresh h' (β ++ [r2]) w') (β ++ [r2]) r2 := handed_R (fr := fr) ⟨c.T, c.k, y, rfl, hR2⟩ (fun b hb => reach b hb)
  have hgen := h.gen (hdr := hk.drawn) h' [r2] w' (fun l1 => l = some l1) hk.os hk.tape hk.output hk.size (by show (killO s.heap l ++ _).length = _; rw [List.length_append, hlen0]; rfl)
    (fun l1 o ho hn => ⟨o, by
      show (killO s.heap l ++ _)[l1]? = some o
      rw [List.getElem?_append_left (by rw [hlen0]; exact (List.getElem?_eq_some_iff.1 ho).1), killO_get hn]; exact ho, rfl⟩)
    (fun l1 _ ho => by
      have h1 : l ≠ some l1 := fun e => by obtain ⟨ff, fl, g1, _⟩ := hlr l1 e; rw [g1] at ho; simp at ho
      show (killO s.heap l ++ _)[l1]? = _
      rw [List.getElem?_append_left (by rw [hlen0]; exact (List.getElem?_eq_some_iff.1 ho).1), killO_get h1]; exact ho)
    (fun b hb hx => hk.block b hb (fun hF => by
      obtain ⟨l1, ff, fl, h0, g1, g2, g3⟩ := hin b hF
      exact hx l1 _ r g1 g2 h0 g3))
    (fun l1 o r1 b ho hr1 hch hbo => by
      rcases hget l1 o r1 ho hr1 with ⟨_, rfl⟩ | ⟨h1, hlt, g1, g2⟩ | ⟨_, rfl, rfl⟩
      · simp [AObj.occ] at hbo
      · rcases hch with hch | hch
        · exact absurd hch h1
        · omega
      · obtain ⟨hreal, rfl⟩ := hocc0 b hbo
        obtain ⟨q1, q2⟩ := hocc2 hreal
        refine ⟨q1, ?_⟩
        rcases q2 with q2 | q2
        · exact .inl q2
        · obtain ⟨l2, ff, fl, h0, g1, g2, g3⟩ := hin _ q2
          exact .inr ⟨l2, _, r, g1, g2, h0, g3⟩)
    (fun l1 l2 o1 o2 r1 r2' b ho1 hr1 ho2 hr2 hch1 hch2 hb1 hb2 => by
      have cls : ∀ (l1 : Nat) (o : Bool × AObj) (r1 : Bl), h'[l1]? = some o → (β ++ [r2])[l1]? = some r1 → (l = some l1 ∨ s.heap.length ≤ l1) → b ∈ o.2.occ r1 → l1 = s.heap.length := by
        intro l1 o r1 ho hr1 hch hbo
        rcases hget l1 o r1 ho hr1 with ⟨_, rfl⟩ | ⟨h1, hlt, g1, g2⟩ | ⟨h1, _, _⟩
        · simp [AObj.occ] at hbo
        · rcases hch with hch | hch
          · exact absurd hch h1
          · omega
        · exact h1
      rw [cls l1 o1 r1 ho1 hr1 hch1 hb1, cls l2 o2 r2' ho2 hr2 hch2 hb2])
    (fun l1 o r1 ho hr1 hch _ _ _ _ => by
      rcases hget l1 o r1 ho hr1 with ⟨_, rfl⟩ | ⟨h1, hlt, g1, g2⟩ | ⟨_, rfl, rfl⟩
      · trivial
      · rcases hch with hch | hch
        · exact absurd hch h1
        · omega
      · exact hvecR)
  obtain ⟨h2, mv⟩ := hgen
  refine ⟨_, β ++ [r2], rfl, h2, ?_, ⟨[r2], rfl⟩, ?_, fun l1 o hl1 ho => ?_, fun l1 ho => ?_⟩
  · exact ⟨r2, A2, c2, by rw [← h.bsize]; simp, rfl, hle2, hsl2⟩
  · show _ ≤ (killO s.heap l ++ _).length
    simp [hlen0]
  · have ho : (killO s.heap l ++ [(true, AObj.vec c.T c.k y fr)])[l1]? = some (false, o) := ho
    rw [List.getElem?_append_left (by rw [hlen0]; exact hl1)] at ho
    by_cases e : l = some l1
    · subst e
      have ho : (s.heap.set l1 (true, AObj.dead))[l1]? = some (false, o) := ho
      rw [List.getElem?_set_self hl1] at ho
      simp at ho
    · rwa [killO_get e] at ho
  · show (killO s.heap l ++ [(true, AObj.vec c.T c.k y fr)])[l1]? = some (true, .mark)
    have h1 : l ≠ some l1 := fun e => by obtain ⟨ff, fl, g1, _⟩ := hlr l1 e; rw [g1] at ho; simp at ho
    rw [List.getElem?_append_left (by rw [hlen0]; exact (List.getElem?_eq_some_iff.1 ho).1), killO_get h1]; exact ho
end Go.Proofs.AM
end

section
namespace Go.Proofs.AM
open Go Go.RowKit Go.Shelf

def growHD (T : TypeId) (k : K) (bytes : Nat) : HD where
  X := Int
  Y := Unit
  dec _ ts := match ts with
    | [.one .nilsl, .one (.dat (.int .i64) n _)] => some n
    | _ => none
  model n := gd (0 ≤ n) (gd (n * (bytes : Int) ≤ 140737488355328) (gd (n ≤ 4611686018427387904) (some ())))
  out h _ _ _ := (h ++ [(true, .vec T k [] true)], .one (.vf h.length))
  push := true
  pushes := fun _ _ _ _ _ => ⟨_, rfl⟩
  two := fun _ => ⟨fun _ _ _ _ _ e => e, fun h h' ts x y hl => ⟨_, _, rfl, by rw [hl]⟩⟩

theorem growHD_sound {P : Program} {ρ : Ren} (L : Lays8.n4 P ρ) {f : FuncId} {T : TypeId} {k : K} {bytes : Nat} (hf : ρ.f 4 = f) (hT : ρ.t 25 = T) (hent : ∀ args w, (callFunc f args).run P w = .ok (.enter f args) w)
    {i0 : TypeInfo} {z : Value} (hi : P.info? T = some i0) (hz : i0.zero = some z) (hzc : z.cells.size = k.size) (hsz : i0.size = k.size) (hpos : 0 < k.size) (hb : i0.bytes = bytes) : (growHD T k bytes).Sound P f := by
  subst hf hT hb
  refine ⟨hent, fun x y hxy C s β a w ts vs h hvs hdec => ?_⟩
  have hx : ∃ (n : Int) (g : Bool), ts = [.one .nilsl, .one (.dat (.int .i64) n g)] ∧ x = n := by
    revert hdec
    simp only [growHD]
    intro hdec
    split at hdec
    · rename_i n g
      exact ⟨n, g, rfl, (Option.some.inj hdec).symm⟩
    · simp at hdec
  obtain ⟨n, g, rfl, rfl⟩ := hx
  obtain ⟨n, rfl⟩ : ∃ n : Int, n = x := ⟨x, rfl⟩
  have hm : gd (0 ≤ n) (gd (n * (i0.bytes : Int) ≤ 140737488355328) (gd (n ≤ 4611686018427387904) (some ()))) = some y := hxy
  obtain ⟨h0, hm⟩ := gd_some hm
  obtain ⟨h1, hm⟩ := gd_some hm
  obtain ⟨h2, hm⟩ := gd_some hm
  obtain ⟨v0, v1, rfl, hv0, hv1⟩ : ∃ v0 v1, vs = [v0, v1] ∧ v0 = .slice none 0 0 ∧ v1 = .int .i64 n := by
    match vs, hvs with
    | [v0, v1], hh =>
      refine ⟨v0, v1, rfl, hh.1, ?_⟩
      have : [v1] = [.int .i64 n] := hh.2.1
      simpa using this
  subst hv0 hv1
  obtain ⟨m, rfl⟩ : ∃ m : Nat, n = (m : Int) := ⟨n.toNat, by omega⟩
  have hh1 : m * i0.bytes ≤ 140737488355328 := by
    have : ((m * i0.bytes : Nat) : Int) ≤ 140737488355328 := by rw [Int.natCast_mul]; exact h1
    omega
  by_cases hm0 : m = 0
  · subst hm0
    refine (Any8.slices_Grow_room L none 0 0 0 w (Nat.le_refl _) (by omega) (by omega) (Nat.le_refl _)).mono ?_
    rintro e' w' ⟨rfl, rfl⟩
    obtain ⟨h2, mv⟩ := h.push (Grew.refl w') (.vec (ρ.t 25) k [] true) ⟨0, 0, k.size, 0, 0, false, none, []⟩ (fun b hb => by simp [AObj.occ] at hb) (fun _ _ _ => ⟨rfl, rfl, Nat.le_refl _, rfl⟩)
    exact ⟨_, β ++ [(⟨0, 0, k.size, 0, 0, false, none, []⟩ : Bl)], rfl, h2, ⟨⟨0, 0, k.size, 0, 0, false, none, []⟩, none, 0, by rw [← h.bsize]; simp, rfl, Nat.le_refl _, .inr ⟨rfl, rfl⟩⟩,
      ⟨⟨_, rfl⟩, by show _ ≤ (s.heap ++ [(true, AObj.vec (ρ.t 25) k [] true)]).length; simp, fun l o hl ho => by
        have ho : (s.heap ++ [(true, AObj.vec (ρ.t 25) k [] true)])[l]? = some (false, o) := ho
        rwa [List.getElem?_append_left hl] at ho, fun l hl => get_app hl⟩⟩
  · refine (Any8.slices_Grow_grow L i0 z hi hz (by omega) none 0 0 m [] w (Nat.le_refl _) (by omega) (by rw [Nat.zero_add]; exact hh1) (by omega) (by simp) (fun _ => rfl) (fun a ha => by simp at ha)).mono ?_
    rintro e' w' ⟨rfl, rfl⟩
    have hge := grownCap_ge w (0 + m) 0 (ρ.t 25)
    have hlen : (([] : List Value).toArray ++ Builtin.zeroCells z.cells (0 + m - 0) ++ Builtin.zeroCells z.cells (grownCap w (0 + m) 0 (ρ.t 25) - (0 + m))).toList.length = grownCap w (0 + m) 0 (ρ.t 25) * k.size := by
      simp only [Array.toList_append, List.length_append, Array.length_toList, size_zeroCells, hzc]
      simp only [List.size_toArray, List.length_nil, Nat.zero_add, ← Nat.add_mul]
      congr 1
      simp only [Nat.zero_add] at hge
      omega
    obtain ⟨h2, mv⟩ := h.push ((Grew.drew w).trans (Grew.alloc w.drew (.cells (([] : List Value).toArray ++ Builtin.zeroCells z.cells (0 + m - 0) ++ Builtin.zeroCells z.cells (grownCap w (0 + m) 0 (ρ.t 25) - (0 + m))) (ρ.t 25)))) (.vec (ρ.t 25) k [] true) ⟨w.heap.size, 0, k.size, 0, grownCap w (0 + m) 0 (ρ.t 25), true, none, []⟩
      (fun b hb => by
        simp only [AObj.occ, if_true, List.mem_singleton] at hb
        subst hb
        exact ⟨Nat.le_refl _, by simp⟩)
      (fun _ _ _ => by
        refine ⟨rfl, rfl, Nat.zero_le _, ?_⟩
        simp only [if_true]
        exact ⟨[], [], _, heap_alloc_new w.drew _, rfl, rfl, by rw [List.length_nil, Nat.zero_add]; exact hlen⟩)
    exact ⟨_, β ++ [(⟨w.heap.size, 0, k.size, 0, grownCap w (0 + m) 0 (ρ.t 25), true, none, []⟩ : Bl)], rfl, h2, ⟨⟨w.heap.size, 0, k.size, 0, grownCap w (0 + m) 0 (ρ.t 25), true, none, []⟩, _, _, by rw [← h.bsize]; simp, rfl, Nat.zero_le _, .inl ⟨rfl, by simp [Bl.addr], by simp⟩⟩,
      ⟨⟨_, rfl⟩, by show _ ≤ (s.heap ++ [(true, AObj.vec (ρ.t 25) k [] true)]).length; simp, fun l o hl ho => by
        have ho : (s.heap ++ [(true, AObj.vec (ρ.t 25) k [] true)])[l]? = some (false, o) := ho
        rwa [List.getElem?_append_left hl] at ho, fun l hl => get_app hl⟩⟩
end Go.Proofs.AM
end

section
namespace Go.Proofs.AM
open Go Go.RowKit

def K.wf : (k : K) → k.den → Prop
  | .int k, n => (Lit.int k n).wf = true
  | .str, s => ByteArray.size s ≤ maxLen
  | .pair a b, x => a.wf x.1 ∧ b.wf x.2
  | .sl k, xs => List.length xs ≤ maxLen ∧ ∀ x ∈ (show List k.den from xs), k.wf x
  | .rp k, x => k.wf x
  | .ar n k, xs => List.length xs = n ∧ ∀ x ∈ (show List k.den from xs), k.wf x
  | _, _ => True

def PWf : (ps : List (Bool × K)) → PDen ps → Prop
  | [], _ => True
  | p :: ps, x => p.2.wf x.1 ∧ PWf ps x.2

def layF (P : Program) (q : TypeId → Option K) (g : TypeId → Bool) (total : Nat) : List Field → Nat → Bool
  | [], off => off == total
  | x :: r, off => x.offset == off && (match q x.type with
    | some k => P.cellsOf x.type == k.size
    | none => false) && g x.type && layF P q g total r (off + P.cellsOf x.type)

def lay (P : Program) : Nat → TypeId → Bool
  | 0, _ => false
  | n + 1, t => match P.underlying t with
    | some (.int _) => true
    | some .bool => true
    | some .string => true
    | some (.slice e) => (match kindOf P n e with
      | some k => P.cellsOf e == k.size && decide (0 < k.size)
      | none => false) && lay P n e
    | some (.array m e) => (match kindOf P n e with
      | some k => P.cellsOf e == k.size && P.cellsOf t == m * k.size
      | none => false) && lay P n e
    | some (.struct fs) => layF P (kindOf P n) (lay P n) (P.cellsOf t) fs.toList 0
    | _ => false

section
variable {H : Type} {enc : TypeId × Value → H} {P : Program} {w : World} {base : Nat} {spare : Nat → Bool} {held : Bool}

theorem cells_at {a : Addr} {n : Nat} {cells : List Value} (h : w.cells? base a n = some cells) : cells.length = n ∧ ∀ i v, cells[i]? = some v → w.cell? (a.add i) = some v := by
  unfold World.cells? at h
  split at h
  · have hl := mapM_some_length h
    refine ⟨by simpa using hl, fun i v hv => ?_⟩
    have hi := (List.getElem?_eq_some_iff.1 hv).1
    have := mapM_some_get h i i (by rw [List.getElem?_range (by simpa [hl] using hi)])
    rw [this]; exact hv
  · simp at h

end

def psOk (P : Program) : List TypeId → List (Bool × K) → Bool
  | [], [] => true
  | t :: ts, p :: ps => decide (kindOf P 30 t = some p.2) && (isAggT P t == p.1) && lay P 30 t && psOk P ts ps
  | _, _ => false

theorem Grew.below {w w' : World} (h : Grew w w') : Below w.heap.size w w' := ⟨h.os, h.tape, h.output, h.size, h.block⟩

theorem args_stay {H : Type} {enc : TypeId × Value → H} {P : Program} (hl : laidOutB P = true) {W W' : World} (hb : Below W.heap.size W W') : ∀ {ts : List TypeId} {vs : List Value} {ds : List (DataW H)} {q : List MemPlace}, (ts.all fun t => P.readableRec t && decide (t < P.types.size)) = true →
    DataW.TrodAll enc P W 0 (fun _ => true) true ts vs ds q → DataW.TrodAll enc P W' 0 (fun b => decide (b < W.heap.size)) true ts vs ds q
  | [], vs, ds, q, _, h => by
    obtain ⟨rfl, rfl, rfl⟩ := ChangeShapes.trodAll_nil h
    exact ChangeShapes.trodAll_mk0
  | t :: ts, vs, ds, q, hr, h => by
    have hlt := h.lt
    obtain ⟨v, vs', d, ds', p1, q1, rfl, rfl, rfl, h1, h2⟩ := ChangeShapes.trodAll_cons h
    simp only [List.all_cons, Bool.and_eq_true, decide_eq_true_eq] at hr
    exact trodAll_cons_mk (Below.trod hl hr.1.1 hr.1.2 h1 hb (fun x hx => hlt x (by simp [hx]))) (args_stay hl hb hr.2 h2)
end Go.Proofs.AM
end

section
namespace Go.Proofs.AM
open Go Go.RowKit

def K.wd : K → Nat
  | .int q => q.bits / 8
  | .pair a b => a.wd + b.wd
  | .str => 16
  | .sl _ => 24
  | _ => 1

def K.sz : (k : K) → k.den → Prop
  | .pair a b, x => a.sz x.1 ∧ b.sz x.2
  | .sl k, xs => List.length xs * k.wd ≤ 140737488351232 ∧ ∀ x ∈ (show List k.den from xs), k.sz x
  | .rp k, x => k.sz x
  | _, _ => True

def PSz : (ps : List (Bool × K)) → PDen ps → Prop
  | [], _ => True
  | p :: ps, x => p.2.sz x.1 ∧ PSz ps x.2

def roomy (P : Program) : Nat → TypeId → Bool
  | 0, _ => false
  | n + 1, t => match P.underlying t with
    | some (.slice e) => (match kindOf P n e with | some k => decide (k.wd ≤ P.bytesOf e) | none => false) && roomy P n e
    | some (.struct fs) => fs.toList.all fun f => roomy P n f.type
    | some (.array _ _) => false
    | _ => true

theorem weightsAll_mem {H : Type} {P : Program} {e : TypeId} : ∀ {ds : List (DataW H)} {d : DataW H}, d ∈ ds → ∀ n ∈ d.weights P e, n ∈ DataW.weightsAll P e ds
  | x :: ds, d, hd, n, hn => by
    rcases List.mem_cons.1 hd with rfl | hd
    · simp only [DataW.weightsAll, List.mem_append]; exact .inl hn
    · simp only [DataW.weightsAll, List.mem_append]; exact .inr (weightsAll_mem hd n hn)

section
variable {H : Type} {enc : TypeId × Value → H} {P : Program} {w : World} {base : Nat} {spare : Nat → Bool} {held : Bool}

theorem fields_openS {q : TypeId → Option K} {g g2 : TypeId → Bool} {R : Field → DataW H → Prop} {total : Nat} {cs : List Value} (htot : cs.length = total) {N : Nat → Prop}
    (ih : ∀ (f : Field) k cells, q f.type = some k → g f.type = true → g2 f.type = true → (∃ n x, DataW.trod enc P w base spare held n f.type cells = some x ∧ R f x.1) → ∃ y, k.rd w N y cells ∧ k.wf y ∧ k.sz y) :
    ∀ (l : List Field) (off : Nat) (k : K), kindFields q l = some k → layF P q g total l off = true → off ≤ total → (∀ f ∈ l, g2 f.type = true) →
      (∀ f ∈ l, ∃ n x, DataW.trod enc P w base spare held n f.type ((cs.drop f.offset).take (P.cellsOf f.type)) = some x ∧ R f x.1) → ∃ y, k.rd w N y (cs.drop off) ∧ k.wf y ∧ k.sz y
  | [], off, k, hk, hl, _, _, _ => by
    simp only [kindFields, Option.some.injEq] at hk
    subst hk
    simp only [layF, beq_iff_eq] at hl
    exact ⟨(), by show cs.drop off = []; rw [List.drop_eq_nil_iff]; omega, trivial, trivial⟩
  | [x], off, k, hk, hl, ho, hg, hx => by
    simp only [kindFields] at hk
    simp only [layF, hk, Bool.and_eq_true, beq_iff_eq] at hl
    obtain ⟨⟨⟨h1, h2⟩, h3⟩, h4⟩ := hl
    obtain ⟨n, y, hy, hR⟩ := hx x (by simp)
    have : (cs.drop x.offset).take (P.cellsOf x.type) = cs.drop off := by
      rw [h1, List.take_of_length_le]; simp; omega
    rw [this] at hy
    exact ih x k _ hk h3 (hg x (by simp)) ⟨n, y, hy, hR⟩
  | x :: y :: r, off, k, hk, hl, ho, hg, hx => by
    unfold kindFields at hk
    split at hk
    rotate_left
    · simp at hk
    rename_i a b ha hb
    simp only [Option.some.injEq] at hk
    subst hk
    unfold layF at hl
    simp only [ha, Bool.and_eq_true, beq_iff_eq] at hl
    obtain ⟨⟨⟨h1, h2⟩, h3⟩, h4⟩ := hl
    obtain ⟨n, z, hz, hR⟩ := hx x (by simp)
    obtain ⟨y1, g1, g2, g2'⟩ := ih x a _ ha h3 (hg x (by simp)) ⟨n, z, hz, hR⟩
    have hlen := K.rd_len w N a y1 _ g1
    have hle : off + P.cellsOf x.type ≤ total := by
      rw [List.length_take, List.length_drop, h1, ← h2] at hlen
      omega
    obtain ⟨y2, g3, g4, g4'⟩ := fields_openS htot ih (y :: r) (off + P.cellsOf x.type) b hb h4 hle (fun f hf => hg f (by simp [hf])) (fun f hf => hx f (by simp [hf]))
    refine ⟨(y1, y2), ⟨_, _, ?_, g1, g3⟩, ⟨g2, g4⟩, g2', g4'⟩
    rw [h1, ← List.drop_drop, List.take_append_drop]

theorem trod_openS : ∀ (n : Nat) (t : TypeId) (k : K), kindOf P n t = some k → lay P n t = true → roomy P n t = true → ∀ (fuel : Nat) (cs : List Value) (x : DataW H × List MemPlace), DataW.trod enc P w base spare held fuel t cs = some x → (∀ n ∈ x.1.weights P t, n ≤ reachBytes) →
    ∃ y, k.rd w (fun b => b < w.heap.size) y cs ∧ k.wf y ∧ k.sz y := by
  intro n
  induction n with
  | zero => intro t k hk; simp [kindOf] at hk
  | succ n ih =>
    intro t k hk hl hro fuel cs x h hwt
    unfold kindOf at hk
    unfold lay at hl
    unfold roomy at hro
    cases hu : P.underlying t with
    | none => simp [hu] at hk
    | some d =>
      simp only [hu] at hk hl hro
      cases d with
      | int q =>
        simp only [Option.some.injEq] at hk; subst hk
        obtain ⟨m, rfl, _, hw⟩ := DataW.trod_int hu h
        exact ⟨m, rfl, hw, trivial⟩
      | bool =>
        simp only [Option.some.injEq] at hk; subst hk
        obtain ⟨b, rfl, _⟩ := DataW.trod_bool hu h
        exact ⟨b, rfl, trivial, trivial⟩
      | string =>
        simp only [Option.some.injEq] at hk; subst hk
        obtain ⟨s, rfl, _, hs⟩ := DataW.trod_string hu h
        exact ⟨s, rfl, hs, trivial⟩
      | slice e =>
        dsimp only at hk hl hro
        split at hk
        rotate_left
        · simp at hk
        rename_i q hq
        simp only [Option.some.injEq] at hk; subst hk
        simp only [hq, Bool.and_eq_true, beq_iff_eq, decide_eq_true_eq] at hl hro
        obtain ⟨⟨hsz, hpos⟩, hle⟩ := hl
        rcases DataW.trod_slice hu h with ⟨rfl, _⟩ | ⟨a, len, cap, elems, rest, m, _, rfl, hxe, hb, hlc, hm, hlen, hel, _, _⟩
        · exact ⟨[], ⟨none, 0, rfl, Nat.le_refl _, .inl rfl⟩, ⟨Nat.zero_le _, by simp⟩, by show List.length ([] : List q.den) * q.wd ≤ 140737488351232; simp, by simp⟩
        · subst hxe
          have hw1 : (elems.length + rest.length) * P.bytesOf e ≤ reachBytes := hwt _ (by simp [DataW.weights, hu])
          have hlen2 : len * q.wd ≤ 140737488351232 := by
            have h1 : len * q.wd ≤ (elems.length + rest.length) * P.bytesOf e := Nat.mul_le_mul (by omega) hro.1
            have h2 : reachBytes = 140737488351232 := by decide
            omega
          have each : ∀ i, i < len → ∃ cells y, w.cells? base (a.add (i * P.cellsOf e)) (P.cellsOf e) = some cells ∧ q.rd w (fun b => b < w.heap.size) y cells ∧ q.wf y ∧ q.sz y := by
            intro i hi
            have hi' := hel i hi
            obtain ⟨z, hz⟩ : ∃ z, elems[i]? = some z := ⟨_, List.getElem?_eq_getElem (by omega)⟩
            rw [hz, Option.bind_eq_some_iff] at hi'
            obtain ⟨cells, h1, h2⟩ := hi'
            obtain ⟨y, h3, h4⟩ := ih e q hq hle hro.2 m cells z h2 (fun n hn => hwt n (by
              have hzm : z.1 ∈ elems.map (·.1) := List.mem_map_of_mem (List.mem_of_getElem? hz)
              have := weightsAll_mem hzm n hn
              simp only [DataW.weights, hu, List.mem_cons, List.mem_append]
              exact .inr (.inl this)))
            exact ⟨cells, y, h1, h3, h4⟩
          have build : ∀ j, j ≤ len → ∃ (ys : List q.den) (es : List Value), ys.length = j ∧ es.length = j * P.cellsOf e ∧ rows (q.rd w (fun b => b < w.heap.size)) ys es ∧ (∀ y ∈ ys, q.wf y ∧ q.sz y) ∧ ∀ i v, es[i]? = some v → w.cell? (a.add i) = some v := by
            intro j
            induction j with
            | zero => exact fun _ => ⟨[], [], rfl, by simp, rfl, by simp, by simp⟩
            | succ j ihj =>
              intro hj
              obtain ⟨ys, es, h1, h2, h3, h4, h5⟩ := ihj (by omega)
              obtain ⟨cells, y, g1, g2, g3⟩ := each j (by omega)
              obtain ⟨g4, g5⟩ := cells_at g1
              refine ⟨ys ++ [y], es ++ cells, by simp [h1], by rw [List.length_append, h2, g4, Nat.add_mul, Nat.one_mul], h3.app ⟨cells, [], by simp, g2, rfl⟩, ?_, fun i v hv => ?_⟩
              · intro z hz
                rcases List.mem_append.1 hz with hz | hz
                · exact h4 z hz
                · simp at hz; subst hz; exact g3
              · by_cases hi : i < es.length
                · rw [List.getElem?_append_left hi] at hv; exact h5 i v hv
                · rw [List.getElem?_append_right (by omega)] at hv
                  have := g5 _ v hv
                  rw [h2] at this
                  have hi : j * P.cellsOf e ≤ i := by omega
                  have e2 : (a.add (j * P.cellsOf e)).add (i - j * P.cellsOf e) = a.add i ∨ j * P.cellsOf e = i := by
                    by_cases hh : i = j * P.cellsOf e
                    · exact .inr hh.symm
                    · left
                      unfold Addr.add
                      have hd : i - j * P.cellsOf e ≠ 0 := by omega
                      have hi0 : i ≠ 0 := by omega
                      rw [if_neg hd, if_neg hi0]
                      split
                      · rename_i hz; rw [hz] at hi ⊢; simp
                      · simp only [Addr.mk.injEq, true_and, and_true]; omega
                  rcases e2 with e2 | e2
                  · rw [← e2]; exact this
                  · rw [← e2, Nat.sub_self] at this
                    rw [← e2]
                    have e3 : ∀ b : Addr, b.add 0 = b := fun b => by simp [Addr.add]
                    rw [e3] at this; exact this
          obtain ⟨ys, es, h1, h2, h3, h4, h5⟩ := build len (Nat.le_refl _)
          refine ⟨ys, ⟨some a, cap, by show [Value.slice (some a) len cap] = [Value.slice (some a) ys.length cap]; rw [h1], by show ys.length ≤ cap; rw [h1]; exact hlc, ?_⟩, ⟨by show List.length ys ≤ maxLen; omega, fun y hy => (h4 y hy).1⟩, by show List.length ys * q.wd ≤ 140737488351232; rw [h1]; exact hlen2, fun y hy => (h4 y hy).2⟩
          by_cases h0 : ys.length = 0
          · exact .inl h0
          · right
            have hne : 0 < es.length := by rw [h2, hsz]; exact Nat.mul_pos (by omega) hpos
            obtain ⟨v, hv⟩ : ∃ v, es[0]? = some v := ⟨_, List.getElem?_eq_getElem hne⟩
            have hc := h5 0 v hv
            have ha0 : a.add 0 = a := by simp [Addr.add]
            rw [ha0] at hc
            have hsp : a.spot = none ∧ a.block < w.heap.size := by
              unfold World.cell? at hc
              split at hc
              · rename_i hb2
                split at hc
                · simp at hc
                · rename_i hs
                  exact ⟨by simpa using hs, (Array.getElem?_eq_some_iff.1 hb2).1⟩
              · simp at hc
            obtain ⟨b, off, sp⟩ := a
            obtain rfl : sp = none := hsp.1
            refine ⟨b, off, es, rfl, hsp.2, fun i v hv => ?_, h3⟩
            have := h5 i v hv
            unfold Addr.add at this
            split at this
            · rename_i hi; subst hi; exact this
            · exact this
      | array m e => simp at hro
      | struct fs =>
        dsimp only at hk hl hro
        obtain ⟨xs, m, _, hxe, hlen, hxl, hx⟩ := DataW.trod_struct hu h
        subst hxe
        have hgo : ∀ f ∈ fs.toList, roomy P n f.type = true := fun f hf => List.all_eq_true.1 hro f hf
        have ihf : ∀ (f : Field) k cells, kindOf P n f.type = some k → lay P n f.type = true → roomy P n f.type = true → (∃ n x, DataW.trod enc P w base spare held n f.type cells = some x ∧ (∀ m ∈ x.1.weights P f.type, m ≤ reachBytes)) → ∃ y, k.rd w (fun b => b < w.heap.size) y cells ∧ k.wf y ∧ k.sz y :=
          fun f k cells h1 h2 h2' ⟨n', x', h3, h4⟩ => ih f.type k h1 h2 h2' n' cells x' h3 h4
        have hf : ∀ f ∈ fs.toList, ∃ n x, DataW.trod enc P w base spare held n f.type ((cs.drop f.offset).take (P.cellsOf f.type)) = some x ∧ (∀ m ∈ x.1.weights P f.type, m ≤ reachBytes) := by
          intro f hf
          obtain ⟨i, hi⟩ := List.mem_iff_getElem?.1 hf
          have hi' : fs[i]? = some f := by simpa using hi
          have := hx i f hi'
          obtain ⟨z, hz⟩ : ∃ z, xs[i]? = some z := ⟨_, List.getElem?_eq_getElem (by rw [hxl]; exact (Array.getElem?_eq_some_iff.1 hi').1)⟩
          refine ⟨m, z, this.trans hz, fun n hn => hwt n ?_⟩
          simp only [DataW.weights, hu]
          exact DataW.weights_mem_each (j := i) (t := f.type) (d := z.1) (by simp [List.getElem?_map, hi]) (by simp [List.getElem?_map, hz]) n hn
        split at hk
        · rename_i x1 hfs
          split at hk
          rotate_left
          · simp at hk
          rename_i q hq
          simp only [Option.some.injEq] at hk; subst hk
          rw [hfs] at hl hf hgo
          obtain ⟨y, g1, g2, g3⟩ := fields_openS (enc := enc) (R := fun f d => ∀ m ∈ d.weights P f.type, m ≤ reachBytes) hlen ihf [x1] 0 q (by simp [kindFields, hq]) hl (Nat.zero_le _) hgo hf
          exact ⟨(y, ()), ⟨cs, [], by simp, by simpa using g1, rfl⟩, ⟨g2, trivial⟩, g3, trivial⟩
        · obtain ⟨y, g1, g2⟩ := fields_openS (enc := enc) (R := fun f d => ∀ m ∈ d.weights P f.type, m ≤ reachBytes) hlen ihf fs.toList 0 k hk hl (Nat.zero_le _) hgo hf
          exact ⟨y, by simpa using g1, g2⟩
      | _ => simp at hk
end

theorem val_openS {H : Type} {enc : TypeId × Value → H} {P : Program} {w w0 : World} {base base' : Nat} {spare : Nat → Bool} {held : Bool} {t : TypeId} {v : Value} {d : DataW H} {q : List MemPlace} {p : Bool × K} (hk : kindOf P 30 t = some p.2) (hg : isAggT P t = p.1) (hl : lay P 30 t = true) (hro : roomy P 30 t = true)
    (hok : Value.okWide P w0 .any base' t v) (h : DataW.Trod enc P w base spare held t v d q) (hwt : ∀ n ∈ d.weights P t, n ≤ reachBytes) : ∃ y, valR w (fun b => b < w.heap.size) p y v ∧ p.2.wf y ∧ p.2.sz y := by
  obtain ⟨fuel, hf⟩ := h
  obtain ⟨y, h1, h2⟩ := trod_openS 30 t p.2 hk hl hro fuel _ _ hf hwt
  refine ⟨y, ?_, h2⟩
  obtain ⟨pa, pk⟩ := p
  cases pa with
  | true =>
    have : ∃ cs, v = .agg cs := by
      unfold isAggT at hg
      unfold Value.okWide at hok
      split at hg
      · rename_i hu; rw [hu] at hok; obtain ⟨cs, e, _⟩ := hok; exact ⟨cs, e⟩
      · rename_i hu; rw [hu] at hok; obtain ⟨cs, e, _⟩ := hok; exact ⟨cs, e⟩
      · simp at hg
    obtain ⟨cs, rfl⟩ := this
    exact ⟨cs.toList, by simp, by simpa [Value.cells] using h1⟩
  | false =>
    have : v.cells = #[v] := by
      unfold kindOf at hk
      cases hu : P.underlying t with
      | none => simp [hu] at hk
      | some dd =>
        simp only [hu] at hk
        cases dd with
        | int q => obtain ⟨m, rfl⟩ := WideShapes.okWide_int hu hok; rfl
        | bool => obtain ⟨m, rfl⟩ := WideShapes.okWide_bool hu hok; rfl
        | string => obtain ⟨m, rfl⟩ := WideShapes.okWide_string hu hok; rfl
        | slice e => obtain ⟨a, b, c, rfl⟩ := WideShapes.okWide_slice hu hok; rfl
        | struct fs => simp [isAggT, hu] at hg
        | array m e => simp [isAggT, hu] at hg
        | _ => simp at hk
    rw [this] at h1
    exact h1

theorem args_openS {H : Type} {enc : TypeId × Value → H} {P : Program} {w w0 : World} {base base' : Nat} {spare : Nat → Bool} {held : Bool} : ∀ {ts : List TypeId} {ps : List (Bool × K)} {vs : List Value} {ds : List (DataW H)} {q : List MemPlace}, psOk P ts ps = true →
    (∀ (j : Nat) t v, ts[j]? = some t → vs[j]? = some v → Value.okWide P w0 .any base' t v) → (∀ t ∈ ts, roomy P 30 t = true) → DataW.TrodAll enc P w base spare held ts vs ds q → (∀ n ∈ DataW.weightsEach P ts ds, n ≤ reachBytes) → ∃ x, argsR w (fun b => b < w.heap.size) ps x vs ∧ PWf ps x ∧ PSz ps x
  | [], [], vs, ds, q, _, _, _, h, _ => by
    obtain ⟨rfl, _, _⟩ := ChangeShapes.trodAll_nil h
    exact ⟨(), rfl, trivial, trivial⟩
  | t :: ts, p :: ps, vs, ds, q, hp, hv, hro, h, hwt => by
    obtain ⟨v, vs', d, ds', p1, q1, rfl, rfl, rfl, h1, h2⟩ := ChangeShapes.trodAll_cons h
    simp only [psOk, Bool.and_eq_true, decide_eq_true_eq, beq_iff_eq] at hp
    obtain ⟨⟨⟨g1, g2⟩, g3⟩, g4⟩ := hp
    simp only [DataW.weightsEach] at hwt
    obtain ⟨y, k1, k2, k2'⟩ := val_openS g1 g2 g3 (hro t (by simp)) (hv 0 t v rfl rfl) h1 (fun n hn => hwt n (List.mem_append_left _ hn))
    obtain ⟨x, k3, k4, k4'⟩ := args_openS g4 (fun j t' v' e1 e2 => hv (j + 1) t' v' (by simpa using e1) (by simpa using e2)) (fun t' h' => hro t' (by simp [h'])) h2 (fun n hn => hwt n (List.mem_append_right _ hn))
    exact ⟨(y, x), ⟨v, vs', rfl, k1, k3⟩, ⟨k2, k4⟩, k2', k4'⟩
  | [], _ :: _, _, _, _, hp, _, _, _, _ => by simp [psOk] at hp
  | _ :: _, [], _, _, _, hp, _, _, _, _ => by simp [psOk] at hp

theorem law_callS {P : Program} {f : FuncId} {ps : List (Bool × K)} {share : Bool} {m : PDen ps → Option (PDen [(false, .bool)])} (c : CS.Sound P f ⟨ps, [(false, .bool)], share, m⟩) (hm : ∀ x, PWf ps x → PSz ps x → m x = some (true, ()))
    {H : Type} {enc : TypeId × Value → H} {w w0 : World} {base base' : Nat} {spare : Nat → Bool} {held : Bool} {ts : List TypeId} {args : Array Value} {ds : List (DataW H)} {q : List MemPlace} (hps : psOk P ts ps = true) (hro : (ts.all fun t => roomy P 30 t) = true)
    (hv : ∀ (j : Nat) t v, ts[j]? = some t → args.toList[j]? = some v → Value.okWide P w0 .any base' t v) (h : DataW.TrodAll enc P w base spare held ts args.toList ds q) (hwt : (DataW.weightsEach P ts ds).all (· ≤ reachBytes) = true) :
    Calls P f args w fun e w' => e = .returned (.bool true) ∧ Below w.heap.size w w' := by
  obtain ⟨x, h1, h2, h3⟩ := args_openS hps hv (fun t ht => List.all_eq_true.1 hro t ht) h (fun n hn => by simpa using List.all_eq_true.1 hwt n hn)
  have := c.2 x _ (hm x h2 h3) w (fun b => b < w.heap.size) args.toList (fun _ hb => hb) h1
  refine (by simpa using this : Calls P f args w _).mono ?_
  rintro e w' ⟨v, rfl, hg, hr⟩
  refine ⟨?_, hg.below⟩
  have hr : [v] = [Value.bool true] := hr
  simp only [List.cons.injEq, and_true] at hr
  rw [hr]

end Go.Proofs.AM
end

section
namespace Go.Proofs.AM
open Go

theorem wrap64 {n : Int} (h1 : -9223372036854775808 ≤ n) (h2 : n ≤ 9223372036854775807) : IntKind.wrap .i64 n = n := by
  have e1 : IntKind.bits .i64 = 64 := rfl
  have e2 : IntKind.signed .i64 = true := rfl
  simp only [IntKind.wrap, e1, e2, Bool.true_and, Nat.add_one_sub_one]
  split <;> rename_i h <;> simp at h <;> omega

theorem wrapU64 {n : Int} (h1 : 0 ≤ n) (h2 : n < 18446744073709551616) : IntKind.wrap .u64 n = n := by
  have e1 : IntKind.bits .u64 = 64 := rfl
  have e2 : IntKind.signed .u64 = false := rfl
  simp only [IntKind.wrap, e1, e2, Bool.false_and]
  simp
  omega

def ifind {V : Type} (es : List (Int × V)) (x : Int) : Option V := match es with
  | [] => none
  | p :: r => if x = p.1 then some p.2 else ifind r x

theorem ifind_cons {V : Type} (p : Int × V) (r : List (Int × V)) (x : Int) : ifind (p :: r) x = if x = p.1 then some p.2 else ifind r x := rfl

theorem mget_ifind {V : Type} {q : IntKind} (es : List (Int × V)) (x : Int) (z : V) : mget (false, .int q) es x z = (ifind es x).getD z := by
  induction es with
  | nil => rfl
  | cons p r ih =>
    have ih' : mget (false, .int q) r x z = (ifind r x).getD z := ih
    show cond (decide (x = p.1)) p.2 (mget (false, .int q) r x z) = _
    rw [ih', ifind_cons]
    by_cases h : x = p.1 <;> simp [h]

theorem mset_ifind {V : Type} {q : IntKind} (es : List (Int × V)) (x : Int) (v : V) (y : Int) : ifind (mset (false, .int q) es x v) y = if y = x then some v else ifind es y := by
  induction es with
  | nil => show ifind [(x, v)] y = _; simp [ifind]
  | cons p r ih =>
    have ih' : ifind (mset (false, .int q) r x v) y = if y = x then some v else ifind r y := ih
    show ifind (cond (decide (x = p.1)) ((x, v) :: r) (p :: mset (false, .int q) r x v)) y = _
    by_cases h : x = p.1
    · simp only [h, decide_true, cond_true]
      rw [ifind_cons, ifind_cons]
      by_cases hy : y = p.1 <;> simp [hy]
    · simp only [h, decide_false, cond_false]
      rw [ifind_cons, ifind_cons, ih']
      by_cases hy : y = x
      · simp [hy, h]
      · by_cases h2 : y = p.1
        · subst h2; simp [hy, fun e => hy (Eq.symm e)]
        · simp [hy, h2]

def Ok {A : Type} (o : Option A) (T : A → Prop) : Prop := ∃ r, o = some r ∧ T r

theorem Ok.some {A : Type} {T : A → Prop} {r : A} (h : T r) : Ok (some r) T := ⟨r, rfl, h⟩
theorem Ok.of {A : Type} {T : A → Prop} {o : Option A} {r : A} (e : o = Option.some r) (h : T r) : Ok o T := ⟨r, e, h⟩
theorem Ok.mono {A : Type} {S T : A → Prop} {o : Option A} (h : Ok o S) (k : ∀ r, S r → T r) : Ok o T := by
  obtain ⟨r, e, h⟩ := h; exact ⟨r, e, k r h⟩
theorem Ok.bind {A B : Type} {S : A → Prop} {T : B → Prop} {a : Option A} {f : A → Option B} (h : Ok a S) (k : ∀ x, S x → Ok (f x) T) : Ok (Option.bind a f) T := by
  obtain ⟨r, rfl, h⟩ := h; exact k r h
theorem Ok.gd {A : Type} {T : A → Prop} {c : Prop} [Decidable c] {x : Option A} (h : c) (k : Ok x T) : Ok (gd c x) T := by rw [gd_pos h]; exact k
theorem Ok.cond {A : Type} {T : A → Prop} {c : Prop} [Decidable c] {x y : Option A} (h : c → Ok x T) (k : ¬ c → Ok y T) : Ok (bif decide c then x else y) T := by
  by_cases hc : c
  · rw [decide_eq_true hc]; exact h hc
  · rw [decide_eq_false hc]; exact k hc
theorem Ok.condb {A : Type} {T : A → Prop} {b : Bool} {x y : Option A} (h : b = true → Ok x T) (k : b = false → Ok y T) : Ok (bif b then x else y) T := by
  cases b
  · exact k rfl
  · exact h rfl
theorem Ok.ncond {A : Type} {T : A → Prop} {c : Prop} [Decidable c] {x y : Option A} (h : ¬ c → Ok x T) (k : c → Ok y T) : Ok (bif !decide c then x else y) T := by
  by_cases hc : c
  · rw [decide_eq_true hc]; exact k hc
  · rw [decide_eq_false hc]; exact h hc
theorem Ok.ite {A : Type} {T : A → Prop} {c : Prop} [Decidable c] {x y : Option A} (h : c → Ok x T) (k : ¬ c → Ok y T) : Ok (if c then x else y) T := by
  by_cases hc : c
  · rw [if_pos hc]; exact h hc
  · rw [if_neg hc]; exact k hc

theorem Ok.loop {X E : Type} {f : X → Option (X ⊕ E)} {x : X} {T : E → Prop} (n : Nat) (Q : Nat → X → Prop) (start : Q 0 x) (step : ∀ i x, i ≤ n → Q i x → Ok (f x) (fun s => s.elim (fun y => i < n ∧ Q (i + 1) y) T)) : Ok (loopM f x) T := by
  suffices H : ∀ k i x, i + k = n → Q i x → Ok (loopM f x) T from H n 0 x (by omega) start
  intro k
  induction k with
  | zero =>
    intro i x hi q
    obtain ⟨r, e, h⟩ := step i x (by omega) q
    rw [loopM_eq, e]
    cases r with
    | inl y => exact absurd h.1 (by omega)
    | inr e => exact ⟨_, rfl, h⟩
  | succ k ih =>
    intro i x hi q
    obtain ⟨r, e, h⟩ := step i x (by omega) q
    rw [loopM_eq, e]
    cases r with
    | inl y => exact ih (i + 1) y (by omega) h.2
    | inr e => exact ⟨_, rfl, h⟩

theorem Ok.inl {X E : Type} {Q : X → Prop} {T : E → Prop} {y : X} (h : Q y) : Ok (Option.some (Sum.inl y)) (fun s : X ⊕ E => s.elim Q T) := ⟨_, rfl, h⟩
theorem Ok.inr {X E : Type} {Q : X → Prop} {T : E → Prop} {e : E} (h : T e) : Ok (Option.some (Sum.inr e)) (fun s : X ⊕ E => s.elim Q T) := ⟨_, rfl, h⟩
theorem Ok.elim {A B C : Type} {T : C → Prop} {f : A → Option C} {g : B → Option C} {s : A ⊕ B} (h : ∀ a, s = .inl a → Ok (f a) T) (k : ∀ b, s = .inr b → Ok (g b) T) : Ok (Sum.elim f g s) T := by
  cases s with
  | inl a => exact h a rfl
  | inr b => exact k b rfl

end Go.Proofs.AM
end
