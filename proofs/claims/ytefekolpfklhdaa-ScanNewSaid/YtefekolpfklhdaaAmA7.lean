/- Contracts; operations that turn memory. -/
import Derived.Test.YtefekolpfklhdaaAmA6
set_option maxRecDepth 2000
set_option linter.unusedVariables false
set_option linter.unusedSimpArgs false
namespace Go.Proofs.AM
open Go Go.RowKit

/-! ### contracts -/
@[reducible] def PDen : List (Bool × K) → Type
  | [] => Unit
  | p :: ps => p.2.den × PDen ps

def argsR (w : World) (N : Nat → Prop) : (ps : List (Bool × K)) → PDen ps → List Value → Prop
  | [], _, vs => vs = []
  | p :: ps, x, vs => ∃ v vs', vs = v :: vs' ∧ valR w N p x.1 v ∧ argsR w N ps x.2 vs'

def resR (w : World) (N : Nat → Prop) : (rs : List (Bool × K)) → PDen rs → Value → Prop
  | [p], y, v => valR w N p y.1 v
  | rs, y, v => ∃ vs : List Value, v = .tuple vs.toArray ∧ argsR w N rs y vs

/-- What a call of a function comes to, where it only reads what is handed in. -/
structure CS where
  ps : List (Bool × K)
  rs : List (Bool × K)
  share : Bool
  model : PDen ps → Option (PDen rs)

def CS.Sound (P : Program) (f : FuncId) (c : CS) : Prop :=
  (∀ args w, (callFunc f args).run P w = .ok (.enter f args) w) ∧
  ∀ (x : PDen c.ps) (y : PDen c.rs), c.model x = some y → ∀ (w : World) (N : Nat → Prop) (args : List Value), (∀ b, N b → b < w.heap.size) → argsR w N c.ps x args →
    Calls P f args.toArray w fun e w' => ∃ v, e = .returned v ∧ Grew w w' ∧
      resR w' (fun b => (c.share = true ∧ N b) ∨ (w.heap.size ≤ b ∧ b < w'.heap.size)) c.rs y v

/-- What may become of memory: objects come behind; what has turned is marked so. -/
structure Grown (h h' : List (Bool × AObj)) (β β' : List Bl) : Prop where
  bx : ∃ δ, β' = β ++ δ
  hl : h.length ≤ h'.length
  hp : ∀ (l : Nat) (o : AObj), l < h.length → h'[l]? = some (false, o) → h[l]? = some (false, o)
  hm : ∀ (l : Nat), h[l]? = some (true, .mark) → h'[l]? = some (true, .mark)

/-- What a call of a function comes to, where it turns memory: what is read off, what comes of it, what lies behind. -/
structure HD where
  X : Type
  Y : Type
  dec : List (Bool × AObj) → List TV → Option X
  model : X → Option Y
  out : List (Bool × AObj) → List TV → X → Y → List (Bool × AObj) × TV
  push : Bool := false
  pushes : push = true → ∀ h ts x y, ∃ δ, (out h ts x y).1 = h ++ δ := by intro h; cases h

def HD.Sound (P : Program) (f : FuncId) (c : HD) : Prop :=
  (∀ args w, (callFunc f args).run P w = .ok (.enter f args) w) ∧
  ∀ (x : c.X) (y : c.Y), c.model x = some y → ∀ (C : Cx) (s : AS) (β : List Bl) (a : Act) (w : World) (ts : List TV) (vs : List Value), Rel C s β a w →
    All2 (TV.R w (C.N s.heap β w) (C.fresh s.heap β w) β) ts vs → c.dec s.heap ts = some x →
    Calls P f vs.toArray w fun e w' => ∃ v β', e = .returned v ∧ Rel C { s with heap := (c.out s.heap ts x y).1 } β' a w' ∧
      (c.out s.heap ts x y).2.R w' (C.N (c.out s.heap ts x y).1 β' w') (C.fresh (c.out s.heap ts x y).1 β' w') β' v ∧ Grown s.heap (c.out s.heap ts x y).1 β β'

/-! ### calls that are carried out in place -/
/-- What a round of a loop over a function does: from memory and what it is handed to memory and its answer. -/
abbrev Handler := (R : Type) → List (Bool × AObj) → List TV → (List (Bool × AObj) → TV → Option R) → Option R

/-- A function that is entered in place; what it is told of are the loops whose rounds it may call. -/
structure ID where
  run : List (Nat × Handler) → Handler

def lookY : List (Nat × Handler) → Nat → Option Handler
  | [], _ => none
  | p :: r, l => if p.1 = l then some p.2 else lookY r l

/-- How such a call ends. -/
def CallPost (C : Cx) (s : AS) (β : List Bl) (a : Act) {R : Type} (k : List (Bool × AObj) → TV → Option R) (r : R) (e : Ending) (w' : World) : Prop :=
  ∃ (v : Value) (h' : List (Bool × AObj)) (tv : TV) (β' : List Bl), e = .returned v ∧ k h' tv = some r ∧ Rel C { s with heap := h' } β' a w' ∧ tv.R w' (C.N h' β' w') (C.fresh h' β' w') β' v ∧ Grown s.heap h' β β'

/-- More activations wait. -/
structure CxLe (C C' : Cx) : Prop where
  w0 : C'.w0 = C.w0
  N0 : C'.N0 = C.N0
  F : C'.F = C.F
  frs : ∀ f ∈ C.frs, f ∈ C'.frs

def HOK (P : Program) (C0 : Cx) (β0 : List Bl) (l : Nat) (H : Handler) : Prop :=
  ∃ rr, β0[l]? = some rr ∧ ∀ (C : Cx), CxLe C0 C → ∀ (R : Type) (ts : List TV) (k : List (Bool × AObj) → TV → Option R) (r : R) (s : AS), H R s.heap ts k = some r →
    ∀ (β : List Bl) (a : Act) (w : World) (vs : List Value), (∃ δ, β = β0 ++ δ) → Rel C s β a w → All2 (TV.R w (C.N s.heap β w) (C.fresh s.heap β w) β) ts vs →
      YieldAt Fence.wide 0 P rr.blk vs.toArray w (CallPost C s β a k r)

def YOK (P : Program) (C : Cx) (β : List Bl) (Y : List (Nat × Handler)) : Prop := ∀ l H, lookY Y l = some H → HOK P C β l H

/-- One activation more waits. -/
def Cx.push (C : Cx) (s : AS) (a : Act) : Cx := { C with frs := ⟨s.tmps, s.marks, a⟩ :: C.frs }

def ID.Sound (P : Program) (f : FuncId) (d : ID) : Prop :=
  (∀ args w, (callFunc f args).run P w = .ok (.enter f args) w) ∧
  ∀ (C : Cx) (β : List Bl) (Y : List (Nat × Handler)) (R : Type) (ts : List TV) (k : List (Bool × AObj) → TV → Option R) (r : R) (s : AS), d.run Y R s.heap ts k = some r →
    ∀ (a : Act) (w : World) (vs : List Value), YOK P (C.push s a) β Y → Rel C s β a w → All2 (TV.R w (C.N s.heap β w) (C.fresh s.heap β w) β) ts vs → Calls P f vs.toArray w (CallPost C s β a k r)

theorem CxLe.refl (C : Cx) : CxLe C C := ⟨rfl, rfl, rfl, fun _ h => h⟩
theorem CxLe.push (C : Cx) (s : AS) (a : Act) : CxLe C (C.push s a) := ⟨rfl, rfl, rfl, fun f hf => List.mem_cons_of_mem _ hf⟩
theorem CxLe.trans {A B C : Cx} (h : CxLe A B) (k : CxLe B C) : CxLe A C := ⟨k.w0.trans h.w0, k.N0.trans h.N0, k.F.trans h.F, fun f hf => k.frs f (h.frs f hf)⟩

theorem YOK.mono {P : Program} {C C' : Cx} {β β' : List Bl} {Y : List (Nat × Handler)} (h : YOK P C β Y) (hC : CxLe C C') (hβ : ∃ δ, β' = β ++ δ) : YOK P C' β' Y := by
  obtain ⟨δ, rfl⟩ := hβ
  intro l H hl
  obtain ⟨rr, hr, hh⟩ := h l H hl
  refine ⟨rr, get_app hr, fun C2 hC2 R ts k r s e β2 a w vs hb hrel hts => ?_⟩
  obtain ⟨δ', rfl⟩ := hb
  exact hh C2 (hC.trans hC2) R ts k r s e _ a w vs ⟨δ ++ δ', by simp⟩ hrel hts

theorem YOK.nil (P : Program) (C : Cx) (β : List Bl) : YOK P C β [] := fun l H h => by simp [lookY] at h

structure Env where
  cs : FuncId → Option CS
  hd : FuncId → Option HD
  imm : List Nat := []
  inl : FuncId → Option ID := fun _ => none
  yl : List (Nat × Handler) := []

/-- Whether what an operation makes is taken as data, not as something of one's own. -/
def Env.im (Γ : Env) (o : Oper) : Bool := match o.dst with
  | some d => Γ.imm.contains d
  | none => false

structure Env.Sound (P : Program) (Γ : Env) : Prop where
  cs : ∀ f c, Γ.cs f = some c → c.Sound P f
  hd : ∀ f c, Γ.hd f = some c → c.Sound P f
  inl : ∀ f d, Γ.inl f = some d → d.Sound P f

/-! ### kinds of types -/
def kindFields (f : TypeId → Option K) : List Field → Option K
  | [] => some .unit
  | [x] => f x.type
  | x :: y :: r => match f x.type, kindFields f (y :: r) with
    | some a, some b => some (.pair a b)
    | _, _ => none

def kindOf (P : Program) : Nat → TypeId → Option K
  | 0, _ => none
  | n + 1, t => match P.underlying t with
    | some (.int k) => some (.int k)
    | some .bool => some .bool
    | some .string => some .str
    | some (.slice e) => match kindOf P n e with
      | some k => some (.sl k)
      | none => none
    | some (.struct fs) => match fs.toList with
      | [x] => match kindOf P n x.type with
        | some k => some (.pair k .unit)
        | none => none
      | l => kindFields (kindOf P n) l
    | _ => none

/-! ### steps -/
def AS.push (s : AS) (o : AObj) : AS := { s with heap := s.heap ++ [(true, o)] }
def AS.upd (s : AS) (l : Nat) (o : AObj) : AS := { s with heap := s.heap.set l (true, o) }

/-- What is handed to a contract. -/
def adec (h : Heap) (B : Bool) : (ps : List (Bool × K)) → List TV → Option (PDen ps × Bool)
  | [], [] => some ((), true)
  | p :: ps, t :: ts =>
    match (match p.1, t with
      | true, .agg cs => K.of h B p.2 cs
      | false, .one a => K.of h B p.2 [a]
      | _, _ => none), adec h B ps ts with
    | some (x, f), some (y, g) => some ((x, y), f && g)
    | _, _ => none
  | _, _ => none

def acomps (fr : Bool) : (rs : List (Bool × K)) → PDen rs → List (Bool × List AV)
  | [], _ => []
  | p :: rs, y => (p.1, p.2.cells fr y.1) :: acomps fr rs y.2

def ares (fr : Bool) (rs : List (Bool × K)) (y : PDen rs) : Option TV :=
  match acomps fr rs y with
  | [(agg, c)] => shapeTV agg c
  | l => some (.tup l)

section
variable {R : Type}

def acall (Γ : Env) (s : AS) (f : FuncId) (args : List TV) (k : TV → Option R) : Option R :=
  match Γ.cs f with
  | none => none
  | some c => match adec s.heap (!c.share) c.ps args with
    | none => none
    | some (x, fr) => (c.model x).bind fun y => match ares (!c.share || fr) c.rs y with
      | some tv => k tv
      | none => none
end

def acallH {R : Type} (c : HD) (s : AS) (args : List TV) (k : AS → TV → Option R) : Option R :=
  match c.dec s.heap args with
  | none => none
  | some x => (c.model x).bind fun y => k { s with heap := (c.out s.heap args x y).1 } (c.out s.heap args x y).2

/-! ### what is handed to a contract reads so -/
/-- The blocks that a borrowed reading may look into. -/
def Any (C : Cx) (w : World) (b : Nat) : Prop := (C.N0 b ∨ C.w0.heap.size ≤ b ∨ C.F b) ∧ b < w.heap.size
def AnyF (C : Cx) (w : World) (b : Nat) : Prop := (C.w0.heap.size ≤ b ∨ C.F b) ∧ b < w.heap.size

section
variable {C : Cx} {s : AS} {β : List Bl} {a : Act} {w : World}

theorem Rel.N_any {b : Nat} (x : C.N s.heap β w b) : Any C w b := ⟨x.1.elim .inl (fun h => .inr (.inl h)), x.2.1⟩
theorem Rel.f_any {b : Nat} (x : C.fresh s.heap β w b) : AnyF C w b := ⟨.inl x.1, x.2.1⟩
theorem AnyF.any {b : Nat} (x : AnyF C w b) : Any C w b := ⟨.inr x.1, x.2⟩

theorem bor_any (h : Rel C s β a w) {x : AV} {v : Value} (hx : x.R w (C.N s.heap β w) (C.fresh s.heap β w) β v) : (x.bor s.heap).R w (Any C w) (AnyF C w) β v := by
  have base : ∀ y : AV, y.R w (C.N s.heap β w) (C.fresh s.heap β w) β v → y.R w (Any C w) (AnyF C w) β v := fun y hy =>
    AV.R_mono (N := C.N s.heap β w) (Nf := C.fresh s.heap β w) (fun _ _ => rfl) (fun b h => Rel.N_any h) (fun b h => Cx.fresh_N h) (fun b h => Rel.f_any h) (fun _ _ h => h) y v hy
  unfold AV.bor
  split
  · rename_i l
    split
    · rename_i T q xs fr ho
      obtain ⟨rr, A, c, hr, rfl, hc, hsl⟩ := hx
      obtain ⟨f, b, hf, hb, hn, _⟩ := h.obj ho (by simp)
      rw [hr] at hb; cases hb
      refine ⟨A, c, by rw [hn], by omega, ?_⟩
      by_cases hz : xs.length = 0
      · exact .inl hz
      obtain ⟨f', b', mid, hf', hb', hreal, _, _, _, hcell, hrow⟩ := vec_cells h ho (by omega)
      rw [hr] at hb'; cases hb'
      right
      rcases hsl with ⟨_, rfl, _⟩ | ⟨h1, _⟩
      · refine ⟨rr.blk, rr.base, mid, by simp [Bl.addr], ?_, hcell, hrow.mono fun x y => K.rd_mono (fun _ _ => rfl) (fun b hb => ?_) q x y⟩
        · have := h.occ l _ rr rr.blk hf hr (by simp [AObj.occ, hreal]); cases fr; exact ⟨.inr this.2, this.1⟩; exact ⟨this.2, this.1⟩
        · cases fr
          · exact Rel.N_any hb
          · exact Rel.f_any hb
      · omega
    · trivial
  · rename_i l off len
    split
    · rename_i T q xs fr ho
      obtain ⟨rr, A, c, hr, rfl, hc, hoff, hsl⟩ := hx
      obtain ⟨f, b, hf, hb, hn, _⟩ := h.obj ho (by simp)
      rw [hr] at hb; cases hb
      have hlen : ((xs.drop off).take len).length = len := by simp; omega
      refine ⟨A, c, by rw [hlen], by rw [hlen]; omega, ?_⟩
      by_cases hz : len = 0
      · left; rw [hlen]; exact hz
      obtain ⟨f', b', mid, hf', hb', hreal, _, hsz, _, hcell, hrow⟩ := vec_cells h ho (by omega)
      rw [hr] at hb'; cases hb'
      right
      rcases hsl with ⟨_, rfl, _⟩ | ⟨h1, _⟩
      · have hsplit : xs = xs.take off ++ ((xs.drop off).take len ++ (xs.drop off).drop len) := by
          rw [List.take_append_drop, List.take_append_drop]
        rw [hsplit] at hrow
        obtain ⟨m1, m2, rfl, r1, r2⟩ := rows.of_app hrow
        obtain ⟨m3, m4, rfl, r3, r4⟩ := rows.of_app r2
        have e1 := rows.len (fun x c => K.rd_len w _ q x c) r1
        have e1' : m1.length = off * rr.sz := by rw [e1, hsz]; congr 1; simp; omega
        refine ⟨rr.blk, rr.base + off * rr.sz, m3, by simp [Bl.addr], ?_, ?_, r3.mono fun x y => K.rd_mono (fun _ _ => rfl) (fun b hb => ?_) q x y⟩
        · have := h.occ l _ rr rr.blk hf hr (by simp [AObj.occ, hreal]); cases fr; exact ⟨.inr this.2, this.1⟩; exact ⟨this.2, this.1⟩
        · rw [← e1']; exact hcell.app.2.app.1
        · cases fr
          · exact Rel.N_any hb
          · exact Rel.f_any hb
      · omega
    · trivial
  · exact base _ hx

/-- The blocks that what has been decoded may look into. -/
def Dec (C : Cx) (s : AS) (β : List Bl) (w : World) (B f : Bool) (b : Nat) : Prop :=
  match B, f with
  | true, true => AnyF C w b
  | true, false => Any C w b
  | false, true => C.fresh s.heap β w b
  | false, false => C.N s.heap β w b

theorem Dec.weak {B f g : Bool} {b : Nat} (h : Dec C s β w B f b) (hg : g = true → f = true) : Dec C s β w B g b := by
  cases B
  · cases f
    · cases g
      · exact h
      · simp at hg
    · cases g
      · exact Cx.fresh_N h
      · exact h
  · cases f
    · cases g
      · exact h
      · simp at hg
    · cases g
      · exact AnyF.any h
      · exact h

theorem toD_sound {k : K} {x : AV} {v : Value} {N Nf : Nat → Prop} (hx : x.R w N Nf β v) {y : k.den} {f : Bool} (e : AV.toD k x = some (y, f)) : k.rd w (if f then Nf else N) y [v] := by
  unfold AV.toD at e
  split at e
  · rename_i k' x' fr
    split at e
    · rename_i hk
      subst hk
      simp only [Option.some.injEq, Prod.mk.injEq] at e
      obtain ⟨rfl, rfl⟩ := e
      have hx : K.rd w (if fr then Nf else N) _ x' [v] := hx
      cases fr
      · by_cases hf : k'.flat = true
        · exact K.rd_flat _ _ _ hf hx
        · simp only [hf, Bool.or_false]; simpa [hf] using hx
      · simpa using hx
    · simp at e
  · split at e
    · simp only [Option.some.injEq, Prod.mk.injEq] at e
      obtain ⟨rfl, rfl⟩ := e
      have hx : v = _ := hx
      subst hx
      exact ⟨none, 0, rfl, Nat.le_refl _, .inl rfl⟩
    · simp at e
  · simp at e

theorem ofs_sound (h : Rel C s β a w) (B : Bool) : ∀ (k : K) (l : List AV) (vs : List Value) (x : k.den) (f : Bool) (l2 : List AV), All2 (AV.R w (C.N s.heap β w) (C.fresh s.heap β w) β) l vs →
    K.ofs s.heap B k l = some (x, f, l2) → ∃ v1 v2, vs = v1 ++ v2 ∧ k.rd w (Dec C s β w B f) x v1 ∧ All2 (AV.R w (C.N s.heap β w) (C.fresh s.heap β w) β) l2 v2 := by
  have cell : ∀ (k : K) (l : List AV) (vs : List Value) (x : k.den) (f : Bool) (l2 : List AV), All2 (AV.R w (C.N s.heap β w) (C.fresh s.heap β w) β) l vs →
      (match l with
        | a :: l => match AV.toD k (if B then a.bor s.heap else a) with
          | some (x, f) => some (x, f, l)
          | none => none
        | [] => none) = some (x, f, l2) → ∃ v1 v2, vs = v1 ++ v2 ∧ k.rd w (Dec C s β w B f) x v1 ∧ All2 (AV.R w (C.N s.heap β w) (C.fresh s.heap β w) β) l2 v2 := by
    intro k l vs x f l2 hl e
    match l, vs, hl with
    | [], [], _ => simp at e
    | y :: l, v :: vs, hl =>
      dsimp only at e
      split at e
      · rename_i x' f' ht
        simp only [Option.some.injEq, Prod.mk.injEq] at e
        obtain ⟨rfl, rfl, rfl⟩ := e
        refine ⟨[v], vs, rfl, ?_, hl.2⟩
        cases B
        · have := toD_sound hl.1 ht
          refine K.rd_mono (fun _ _ => rfl) (fun b hb => ?_) _ _ _ this
          cases f' <;> exact hb
        · have := toD_sound (bor_any h hl.1) ht
          refine K.rd_mono (fun _ _ => rfl) (fun b hb => ?_) _ _ _ this
          cases f' <;> exact hb
      · simp at e
  intro k
  induction k with
  | pair p q ihp ihq =>
    intro l vs x f l2 hl e
    unfold K.ofs at e
    split at e
    · rename_i y1 f1 l1 h1
      split at e
      · rename_i y2 f2 l3 h2
        simp only [Option.some.injEq, Prod.mk.injEq] at e
        obtain ⟨rfl, rfl, rfl⟩ := e
        obtain ⟨v1, v2, rfl, r1, a1⟩ := ihp l vs y1 f1 l1 hl h1
        obtain ⟨v3, v4, rfl, r2, a2⟩ := ihq l1 v2 y2 f2 l3 a1 h2
        refine ⟨v1 ++ v3, v4, by simp, ⟨v1, v3, rfl, ?_, ?_⟩, a2⟩
        · exact K.rd_mono (fun _ _ => rfl) (fun b hb => hb.weak (by simp; exact fun h _ => h)) _ _ _ r1
        · exact K.rd_mono (fun _ _ => rfl) (fun b hb => hb.weak (by simp)) _ _ _ r2
      · simp at e
    · simp at e
  | unit =>
    intro l vs x f l2 hl e
    unfold K.ofs at e
    simp only [Option.some.injEq, Prod.mk.injEq] at e
    obtain ⟨_, rfl, rfl⟩ := e
    exact ⟨[], vs, rfl, rfl, hl⟩
  | rp k ih =>
    intro l vs x f l2 hl e
    match l, vs, hl with
    | [], [], _ => simp [K.ofs] at e
    | y :: l, v :: vs, hl =>
      have hv := hl.1
      unfold K.ofs at e
      split at e
      · rename_i k' x' off fr
        split at e
        · rename_i hk
          subst hk
          split at e
          · rename_i ho
            subst ho
            simp only [Option.some.injEq, Prod.mk.injEq] at e
            obtain ⟨rfl, rfl, rfl⟩ := e
            obtain ⟨b, o, es, rfl, h1, h2, h3⟩ := hv
            have hd : ∀ b, (if fr then C.fresh s.heap β w else C.N s.heap β w) b → Dec C s β w B fr b := fun b hb => by
              cases B <;> cases fr <;> first | exact hb | exact Rel.N_any hb | exact Rel.f_any hb | exact hb.2 | exact hb.2.1
            exact ⟨[_], vs, rfl, ⟨b, o, es, rfl, hd _ h1, h2, K.rd_mono (fun _ _ => rfl) hd _ _ _ h3⟩, hl.2⟩
          · simp at e
        · simp at e
      · rename_i k' x' fr
        split at e
        · rename_i hk
          subst hk
          simp only [Option.some.injEq, Prod.mk.injEq] at e
          obtain ⟨rfl, rfl, rfl⟩ := e
          have hd : ∀ b, (if fr then C.fresh s.heap β w else C.N s.heap β w) b → Dec C s β w B fr b := fun b hb => by
            cases B <;> cases fr <;> first | exact hb | exact Rel.N_any hb | exact Rel.f_any hb | exact hb.2 | exact hb.2.1
          exact ⟨[v], vs, rfl, K.rd_mono (fun _ _ => rfl) hd _ _ _ hv, hl.2⟩
        · simp at e
      · rename_i m off
        split at e
        · rename_i T cs ho
          split at e
          · rename_i x' f' l3 hk
            simp only [Option.some.injEq, Prod.mk.injEq] at e
            obtain ⟨rfl, rfl, rfl⟩ := e
            obtain ⟨rr, hr, rfl⟩ := hv
            obtain ⟨ff, b, hf, hb, us, hh, hz, hc⟩ := h.obj ho (by simp)
            rw [hr] at hb; cases hb
            obtain ⟨v1, v2, e12, r1, _⟩ := ih _ _ _ _ _ (hc.drop off) hk
            have hcell : cellsAt w rr.blk rr.base us := by
              rw [hz]; exact cellsAt_block (pre := []) (post := []) (by simpa using hh)
            have hcd := hcell.drop off
            rw [e12] at hcd
            refine ⟨[_], vs, rfl, ⟨rr.blk, rr.base + off, v1, rfl, ?_, hcd.app.1, r1⟩, hl.2⟩
            have ho := h.occ m _ rr rr.blk hf hr (by simp [AObj.occ])
            cases f'
            · exact ⟨.inr ho.2, ho.1⟩
            · exact ⟨ho.2, ho.1⟩
          · simp at e
        · simp at e
      · simp at e
  | int k => intro l vs x f l2 hl e; exact cell _ l vs x f l2 hl (by cases l <;> (unfold K.ofs at e; exact e))
  | bool => intro l vs x f l2 hl e; exact cell _ l vs x f l2 hl (by cases l <;> (unfold K.ofs at e; exact e))
  | str => intro l vs x f l2 hl e; exact cell _ l vs x f l2 hl (by cases l <;> (unfold K.ofs at e; exact e))
  | sl k _ => intro l vs x f l2 hl e; exact cell _ l vs x f l2 hl (by cases l <;> (unfold K.ofs at e; exact e))

theorem of_sound (h : Rel C s β a w) {B : Bool} {k : K} {l : List AV} {vs : List Value} {x : k.den} {f : Bool} (hl : All2 (AV.R w (C.N s.heap β w) (C.fresh s.heap β w) β) l vs)
    (e : K.of s.heap B k l = some (x, f)) : k.rd w (Dec C s β w B f) x vs := by
  unfold K.of at e
  split at e
  · rename_i x' f' he
    simp only [Option.some.injEq, Prod.mk.injEq] at e
    obtain ⟨rfl, rfl⟩ := e
    obtain ⟨v1, v2, rfl, r, hn⟩ := ofs_sound h B k l vs _ _ _ hl he
    match v2, hn with
    | [], _ => simpa using r
  · simp at e

theorem argsR_mono {N N' : Nat → Prop} {w' : World} (hb : ∀ b, N b → w'.heap[b]? = w.heap[b]?) (hN : ∀ b, N b → N' b) : ∀ {ps : List (Bool × K)} {x : PDen ps} {vs : List Value}, argsR w N ps x vs → argsR w' N' ps x vs
  | [], _, _, h => h
  | p :: ps, x, _, ⟨v, vs', e, h1, h2⟩ => ⟨v, vs', e, valR_mono hb hN h1, argsR_mono hb hN h2⟩

theorem adec_sound (h : Rel C s β a w) {B : Bool} : ∀ {ps : List (Bool × K)} {ts : List TV} {vs : List Value} {x : PDen ps} {f : Bool},
    All2 (TV.R w (C.N s.heap β w) (C.fresh s.heap β w) β) ts vs → adec s.heap B ps ts = some (x, f) → argsR w (Dec C s β w B f) ps x vs
  | [], [], [], x, f, _, e => rfl
  | p :: ps, t :: ts, v :: vs, x, f, hl, e => by
    unfold adec at e
    split at e
    · rename_i x1 f1 y1 g1 h1 h2
      simp only [Option.some.injEq, Prod.mk.injEq] at e
      obtain ⟨rfl, rfl⟩ := e
      refine ⟨v, vs, rfl, ?_, argsR_mono (fun _ _ => rfl) (fun b hb => hb.weak (by simp)) (adec_sound h hl.2 h2)⟩
      have hv := hl.1
      obtain ⟨agg, k⟩ := p
      split at h1
      · rename_i cs ha
        dsimp only at ha
        subst ha
        obtain ⟨us, rfl, hu⟩ := hv
        exact ⟨us, rfl, K.rd_mono (fun _ _ => rfl) (fun b hb => hb.weak (by simp; exact fun h _ => h)) _ _ _ (of_sound h hu h1)⟩
      · rename_i y ha
        dsimp only at ha
        subst ha
        have := of_sound h (l := [y]) (vs := [v]) ⟨hv, trivial⟩ h1
        exact K.rd_mono (fun _ _ => rfl) (fun b hb => hb.weak (by simp; exact fun h _ => h)) _ _ _ this
      · simp at h1
    · simp at e
  | [], _ :: _, _, _, _, _, e => by simp [adec] at e
  | _ :: _, [], _, _, _, _, e => by simp [adec] at e
  | [], [], _ :: _, _, _, h, _ => h.elim
  | _ :: _, _ :: _, [], _, _, h, _ => h.elim

theorem acomps_R {N Nf : Nat → Prop} {fr : Bool} : ∀ {rs : List (Bool × K)} {y : PDen rs} {vs : List Value}, argsR w (if fr then Nf else N) rs y vs → All2 (compR w N Nf β) (acomps fr rs y) vs
  | [], _, vs, h => by simp [argsR] at h; subst h; trivial
  | p :: rs, y, _, ⟨v, vs', rfl, h1, h2⟩ => by
    refine ⟨?_, acomps_R h2⟩
    obtain ⟨agg, k⟩ := p
    cases agg
    · have h1 : k.rd w _ y.1 [v] := h1
      have hc := K.cells_R (N := N) (Nf := Nf) (β := β) fr k _ _ h1
      show compR w N Nf β (false, k.cells fr y.1) v
      match hk : k.cells fr y.1, hc with
      | [c], hc => exact hc.1
    · obtain ⟨cs, rfl, h1⟩ := h1
      exact ⟨cs, rfl, K.cells_R fr k _ _ h1⟩

theorem ares_R {N Nf : Nat → Prop} {fr : Bool} {rs : List (Bool × K)} {y : PDen rs} {v : Value} (h : resR w (if fr then Nf else N) rs y v) {tv : TV} (e : ares fr rs y = some tv) : tv.R w N Nf β v := by
  have comp : ∀ (c : Bool × List AV) (tv : TV), shapeTV c.1 c.2 = some tv → compR w N Nf β c v → tv.R w N Nf β v := by
    rintro ⟨agg, c⟩ tv ht hc
    cases agg with
    | true =>
      simp only [shapeTV, Option.some.injEq] at ht; subst ht
      exact hc
    | false =>
      match c, ht, hc with
      | [x0], ht, hc => simp only [shapeTV, Option.some.injEq] at ht; subst ht; exact hc
  match rs, y, h, e with
  | [], y, h, e =>
    obtain ⟨vs, rfl, h1⟩ := h
    simp only [ares, acomps, Option.some.injEq] at e
    subst e
    exact ⟨vs, rfl, acomps_R (β := β) (rs := []) (y := y) h1⟩
  | [p], y, h, e =>
    have hc := acomps_R (β := β) (rs := [p]) (y := y) (vs := [v]) (N := N) (Nf := Nf) (fr := fr) ⟨v, [], rfl, h, rfl⟩
    simp only [ares, acomps] at e
    exact comp (p.1, p.2.cells fr y.1) tv e hc.1
  | p :: q :: rs, y, h, e =>
    obtain ⟨vs, rfl, h1⟩ := h
    simp only [ares, acomps, Option.some.injEq] at e
    subst e
    exact ⟨vs, rfl, acomps_R (β := β) (rs := p :: q :: rs) (y := y) h1⟩
end

section
variable {P : Program} {C : Cx} {s : AS} {β : List Bl} {a : Act} {w : World} {R : Type} {k : TV → Option R} {r : R}

theorem acall_sound (h : Rel C s β a w) {Γ : Env} (hΓ : Γ.Sound P) {f : FuncId} {ts : List TV} {vs : List Value} (hvs : All2 (TV.R w (C.N s.heap β w) (C.fresh s.heap β w) β) ts vs) (e : acall Γ s f ts k = some r) :
    (∀ args w, (callFunc f args).run P w = .ok (.enter f args) w) ∧
    Calls P f vs.toArray w fun e w' => ∃ v tv, e = .returned v ∧ k tv = some r ∧ Grew w w' ∧ tv.R w' (C.N s.heap β w') (C.fresh s.heap β w') β v := by
  unfold acall at e
  split at e
  · simp at e
  rename_i c hc
  split at e
  · simp at e
  rename_i x fr hx
  obtain ⟨hcall, hs⟩ := hΓ.cs f c hc
  refine ⟨hcall, ?_⟩
  obtain ⟨y, hy, e⟩ := Option.bind_eq_some_iff.1 e
  split at e
  · rename_i tv ht
    have hargs := adec_sound h hvs hx
    refine (hs x y hy w _ vs (fun b hb => ?_) hargs).mono ?_
    · revert hb; cases c.share <;> cases fr <;> intro hb <;> first | exact hb | exact Rel.N_any hb | exact Rel.f_any hb | exact hb.2 | exact hb.2.1
    · rintro e' w' ⟨v, rfl, hg, hr⟩
      refine ⟨v, tv, rfl, e, hg, ?_⟩
      have hsub : ∀ b, b < w.heap.size → Free s.heap β b → Free s.heap β b := fun b _ h => h
      have hnew : ∀ b, w.heap.size ≤ b → Free s.heap β b := fun b hb l o rr h1 h2 hx' => by
        have := (h.occ l o rr b h1 h2 hx').1; omega
      have hk := h.keep.size
      refine ares_R ?_ ht
      have mono : ∀ {M M' : Nat → Prop}, (∀ b, M b → M' b) → resR w' M c.rs y v → resR w' M' c.rs y v := by
        intro M M' hM hr
        unfold resR at hr ⊢
        split at hr
        · exact valR_mono (fun _ _ => rfl) hM hr
        · obtain ⟨us, e1, h1⟩ := hr
          exact ⟨us, e1, argsR_mono (fun _ _ => rfl) hM h1⟩
      refine mono (fun b hb => ?_) hr
      cases hsh : c.share with
      | false =>
        rw [hsh] at hb
        simp only [Bool.false_eq_true, false_and, false_or] at hb
        simp only [Bool.not_false, Bool.true_or, if_true]
        exact ⟨by omega, hb.2, hnew b hb.1⟩
      | true =>
        rw [hsh] at hb
        simp only [Bool.not_true, true_and, Bool.false_or] at hb ⊢
        cases fr
        · simp only [Bool.false_eq_true, if_false]
          rcases hb with hb | hb
          · exact ⟨hb.1, by have := hb.2.1; have := hg.size; omega, hb.2.2⟩
          · exact ⟨.inr (by omega), hb.2, hnew b hb.1⟩
        · simp only [if_true]
          rcases hb with hb | hb
          · exact ⟨hb.1, by have := hb.2.1; have := hg.size; omega, hb.2.2⟩
          · exact ⟨by omega, hb.2, hnew b hb.1⟩
  · simp at e
end
end Go.Proofs.AM
