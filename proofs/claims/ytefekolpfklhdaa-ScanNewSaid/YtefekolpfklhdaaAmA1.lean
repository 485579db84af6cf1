/- The abstract machine's data: kinds of pure data, how they lie in memory, abstract values and objects, and the relation to a world. -/
import Derived.WalkKit
import Derived.OrdersIn
import Derived.RangeFuncWrites
import Derived.RangeFuncLeaves
import Derived.RangeFuncCalls
import Derived.KernelRfl
set_option maxRecDepth 2000
set_option linter.unusedVariables false
set_option linter.unusedSimpArgs false
namespace Go.Proofs.AM
open Go Go.RowKit

/-! ### plain words -/
def All2 {α β : Type} (R : α → β → Prop) : List α → List β → Prop
  | [], [] => True
  | a :: l, b :: m => R a b ∧ All2 R l m
  | _, _ => False

theorem All2.len {α β : Type} {R : α → β → Prop} : ∀ {l : List α} {m : List β}, All2 R l m → l.length = m.length
  | [], [], _ => rfl
  | _ :: _, _ :: _, h => by simp [All2.len h.2]
  | [], _ :: _, h => h.elim
  | _ :: _, [], h => h.elim

theorem All2.mono {α β : Type} {R S : α → β → Prop} (h : ∀ a b, R a b → S a b) : ∀ {l : List α} {m : List β}, All2 R l m → All2 S l m
  | [], [], _ => trivial
  | _ :: _, _ :: _, x => ⟨h _ _ x.1, All2.mono h x.2⟩
  | [], _ :: _, x => x.elim
  | _ :: _, [], x => x.elim

theorem All2.get {α β : Type} {R : α → β → Prop} : ∀ {l : List α} {m : List β}, All2 R l m → ∀ {i : Nat} {a : α}, l[i]? = some a → ∃ b, m[i]? = some b ∧ R a b
  | [], [], _, _, _, e => by simp at e
  | x :: _, y :: _, h, 0, a, e => by simp at e; exact ⟨y, by simp, e ▸ h.1⟩
  | _ :: _, _ :: _, h, i + 1, a, e => by simp at e; simpa using All2.get h.2 e
  | [], _ :: _, h, _, _, _ => h.elim
  | _ :: _, [], h, _, _, _ => h.elim

theorem All2.app {α β : Type} {R : α → β → Prop} : ∀ {l : List α} {m : List β} {l' : List α} {m' : List β}, All2 R l m → All2 R l' m' → All2 R (l ++ l') (m ++ m')
  | [], [], _, _, _, h => h
  | _ :: _, _ :: _, _, _, h, h' => ⟨h.1, All2.app h.2 h'⟩
  | [], _ :: _, _, _, h, _ => h.elim
  | _ :: _, [], _, _, h, _ => h.elim

theorem All2.of_app {α β : Type} {R : α → β → Prop} : ∀ {l l' : List α} {m : List β}, All2 R (l ++ l') m → ∃ m1 m2, m = m1 ++ m2 ∧ All2 R l m1 ∧ All2 R l' m2
  | [], _, m, h => ⟨[], m, rfl, trivial, h⟩
  | a :: l, l', b :: m, h => by
    obtain ⟨m1, m2, e, h1, h2⟩ := All2.of_app (l := l) h.2
    exact ⟨b :: m1, m2, by simp [e], ⟨h.1, h1⟩, h2⟩
  | _ :: _, _, [], h => h.elim

theorem All2.take {α β : Type} {R : α → β → Prop} : ∀ {l : List α} {m : List β} (n : Nat), All2 R l m → All2 R (l.take n) (m.take n)
  | [], [], _, _ => by simp [All2]
  | _ :: _, _ :: _, 0, _ => by simp [All2]
  | _ :: _, _ :: _, n + 1, h => ⟨h.1, All2.take n h.2⟩
  | [], _ :: _, _, h => h.elim
  | _ :: _, [], _, h => h.elim

theorem All2.drop {α β : Type} {R : α → β → Prop} : ∀ {l : List α} {m : List β} (n : Nat), All2 R l m → All2 R (l.drop n) (m.drop n)
  | [], [], _, _ => by simp [All2]
  | _ :: _, _ :: _, 0, h => h
  | _ :: _, _ :: _, n + 1, h => All2.drop n h.2
  | [], _ :: _, _, h => h.elim
  | _ :: _, [], _, h => h.elim

theorem All2.set {α β : Type} {R : α → β → Prop} : ∀ {l : List α} {m : List β} (i : Nat) {a : α} {b : β}, All2 R l m → R a b → All2 R (l.set i a) (m.set i b)
  | [], [], _, _, _, _, _ => by simp [All2]
  | _ :: _, _ :: _, 0, _, _, h, r => ⟨r, h.2⟩
  | _ :: _, _ :: _, i + 1, _, _, h, r => ⟨h.1, All2.set i h.2 r⟩
  | [], _ :: _, _, _, _, h, _ => h.elim
  | _ :: _, [], _, _, _, h, _ => h.elim

/-- Rows of elements, one behind the other. -/
def rows {α : Type} (R : α → List Value → Prop) : List α → List Value → Prop
  | [], cs => cs = []
  | x :: xs, cs => ∃ c cs', cs = c ++ cs' ∧ R x c ∧ rows R xs cs'

theorem rows.mono {α : Type} {R S : α → List Value → Prop} (h : ∀ a b, R a b → S a b) : ∀ {l : List α} {m : List Value}, rows R l m → rows S l m
  | [], _, x => x
  | _ :: _, _, ⟨c, cs', e, r, t⟩ => ⟨c, cs', e, h _ _ r, rows.mono h t⟩

theorem rows.app {α : Type} {R : α → List Value → Prop} : ∀ {l l' : List α} {m m' : List Value}, rows R l m → rows R l' m' → rows R (l ++ l') (m ++ m')
  | [], _, _, _, x, y => by simp [rows] at x; simpa [x] using y
  | _ :: _, _, _, m', ⟨c, cs', e, r, t⟩, y => ⟨c, cs' ++ m', by simp [e], r, rows.app t y⟩

theorem rows.of_app {α : Type} {R : α → List Value → Prop} : ∀ {l l' : List α} {m : List Value}, rows R (l ++ l') m → ∃ m1 m2, m = m1 ++ m2 ∧ rows R l m1 ∧ rows R l' m2
  | [], _, m, x => ⟨[], m, rfl, rfl, x⟩
  | _ :: l, _, _, ⟨c, cs', e, r, t⟩ => by
    obtain ⟨m1, m2, e', h1, h2⟩ := rows.of_app (l := l) t
    exact ⟨c ++ m1, m2, by simp [e, e'], ⟨c, m1, rfl, r, h1⟩, h2⟩

theorem rows.len {α : Type} {R : α → List Value → Prop} {n : Nat} (h : ∀ x c, R x c → c.length = n) : ∀ {l : List α} {m : List Value}, rows R l m → m.length = l.length * n
  | [], _, x => by simp [rows] at x; simp [x]
  | _ :: l, _, ⟨c, cs', e, r, t⟩ => by
    have := rows.len h t
    have := h _ _ r
    simp [Nat.add_mul, *]; omega

/-- The cells from an address on. -/
def cellsAt (w : World) (b off : Nat) (cs : List Value) : Prop := ∀ j v, cs[j]? = some v → w.cell? ⟨b, off + j, none⟩ = some v

theorem cellsAt.app {w : World} {b off : Nat} {c d : List Value} (h : cellsAt w b off (c ++ d)) : cellsAt w b off c ∧ cellsAt w b (off + c.length) d := by
  refine ⟨fun j v e => h j v ?_, fun j v e => ?_⟩
  · rw [List.getElem?_append_left (by have := (List.getElem?_eq_some_iff.1 e).1; exact this)]; exact e
  · have := h (c.length + j) v (by rw [List.getElem?_append_right (by omega)]; simpa using e)
    rw [show off + c.length + j = off + (c.length + j) from by omega]; exact this

theorem cellsAt.block {w w' : World} {b off : Nat} {c : List Value} (h : cellsAt w b off c) (hb : w'.heap[b]? = w.heap[b]?) : cellsAt w' b off c := fun j v e => by
  rw [World.cell?_of_block (w := w) hb]; exact h j v e

/-! ### kinds of pure data -/
inductive K where
  | int (k : IntKind) | bool | str | unit
  | pair (a b : K)
  | sl (k : K)
  | rp (k : K)
  deriving DecidableEq

@[reducible] def K.den : K → Type
  | .int _ => Int
  | .bool => Bool
  | .str => ByteArray
  | .unit => Unit
  | .pair a b => a.den × b.den
  | .sl k => List k.den
  | .rp k => k.den

/-- How many cells a value of a kind takes. -/
def K.size : K → Nat
  | .unit => 0
  | .pair a b => a.size + b.size
  | _ => 1

/-- How cells read as a datum; 'N': the blocks that the reading may look into. -/
def K.rd (w : World) (N : Nat → Prop) : (k : K) → k.den → List Value → Prop
  | .int k, n, cs => cs = [.int k n]
  | .bool, b, cs => cs = [.bool b]
  | .str, s, cs => cs = [.string s]
  | .unit, _, cs => cs = []
  | .pair a b, x, cs => ∃ c d, cs = c ++ d ∧ a.rd w N x.1 c ∧ b.rd w N x.2 d
  | .sl k, xs, cs => ∃ A c, cs = [.slice A (List.length xs) c] ∧ List.length xs ≤ c ∧ (List.length xs = 0 ∨ ∃ b off es, A = some ⟨b, off, none⟩ ∧ N b ∧ cellsAt w b off es ∧ rows (k.rd w N) xs es)
  | .rp k, x, cs => ∃ b off es, cs = [.pointer (some ⟨b, off, none⟩)] ∧ N b ∧ cellsAt w b off es ∧ k.rd w N x es

theorem K.rd_len (w : World) (N : Nat → Prop) : ∀ (k : K) (x : k.den) (cs : List Value), k.rd w N x cs → cs.length = k.size
  | .int k, n, cs, h => by simp [K.rd] at h; simp [h, K.size]
  | .bool, b, cs, h => by simp [K.rd] at h; simp [h, K.size]
  | .str, s, cs, h => by simp [K.rd] at h; simp [h, K.size]
  | .unit, _, cs, h => by simp [K.rd] at h; simp [h, K.size]
  | .pair a b, x, cs, h => by
    obtain ⟨c, d, rfl, h1, h2⟩ := h
    simp [K.size, K.rd_len w N a _ _ h1, K.rd_len w N b _ _ h2]
  | .sl k, xs, cs, h => by obtain ⟨A, c, rfl, _⟩ := h; simp [K.size]
  | .rp k, xs, cs, h => by obtain ⟨A, c, _, rfl, _⟩ := h; simp [K.size]

theorem K.rd_mono {w w' : World} {N N' : Nat → Prop} (hb : ∀ b, N b → w'.heap[b]? = w.heap[b]?) (hN : ∀ b, N b → N' b) : ∀ (k : K) (x : k.den) (cs : List Value), k.rd w N x cs → k.rd w' N' x cs
  | .int k, n, cs, h => h
  | .bool, b, cs, h => h
  | .str, s, cs, h => h
  | .unit, _, cs, h => h
  | .pair a b, x, cs, h => by
    obtain ⟨c, d, e, h1, h2⟩ := h
    exact ⟨c, d, e, K.rd_mono hb hN a _ _ h1, K.rd_mono hb hN b _ _ h2⟩
  | .sl k, xs, cs, h => by
    obtain ⟨A, c, e, hl, h⟩ := h
    refine ⟨A, c, e, hl, ?_⟩
    rcases h with h | ⟨b, off, es, hA, hNb, hc, hr⟩
    · exact .inl h
    · exact .inr ⟨b, off, es, hA, hN _ hNb, hc.block (hb _ hNb), hr.mono (fun a b => K.rd_mono hb hN k a b)⟩
  | .rp k, x, cs, h => by
    obtain ⟨b, off, es, e, hNb, hc, hr⟩ := h
    exact ⟨b, off, es, e, hN _ hNb, hc.block (hb _ hNb), K.rd_mono hb hN k _ _ hr⟩

/-- A kind without any memory behind it. -/
def K.flat : K → Bool
  | .sl _ | .rp _ => false
  | .pair a b => a.flat && b.flat
  | _ => true

theorem K.rd_flat {w w' : World} {N N' : Nat → Prop} : ∀ (k : K) (x : k.den) (cs : List Value), k.flat = true → k.rd w N x cs → k.rd w' N' x cs
  | .int k, n, cs, _, h => h
  | .bool, b, cs, _, h => h
  | .str, s, cs, _, h => h
  | .unit, _, cs, _, h => h
  | .pair a b, x, cs, f, h => by
    simp [K.flat] at f
    obtain ⟨c, d, e, h1, h2⟩ := h
    exact ⟨c, d, e, K.rd_flat a _ _ f.1 h1, K.rd_flat b _ _ f.2 h2⟩
  | .sl k, xs, cs, f, h => by simp [K.flat] at f
  | .rp k, x, cs, f, h => by simp [K.flat] at f

/-! ### abstract values -/
inductive AV where
  | junk
  | dat (k : K) (x : k.den) (fr : Bool)
  | nilsl | nilp | nilf
  | ro (k : K) (x : k.den) (off : Nat) (fr : Bool)
  | ptr (l off : Nat)
  | vf (l : Nat)
  | vw (l off len : Nat)
  | vp (l i off : Nat)
  | fn (f : FuncId) (caps : List Nat)
  | mp (l : Nat)
  | yl (l : Nat)
  | wk (l : Nat)
  | nili
  | ifc (t : TypeId) (a : AV)

/-- Where an object lies ('rc': of a loop over a function, its record as it was laid). -/
structure Bl where
  blk : Nat
  base : Nat
  sz : Nat
  n : Nat
  cap : Nat
  real : Bool
  rc : Option Loop := none

def Bl.addr (r : Bl) (off : Nat) : Option Addr := some ⟨r.blk, r.base + off, none⟩

/-- Where a window over an owned row of cells begins. -/
def Bl.slice (r : Bl) (A : Option Addr) (off len c : Nat) : Prop := (r.real = true ∧ A = r.addr (off * r.sz) ∧ off + c ≤ r.cap) ∨ (len = 0 ∧ c = 0)

def AV.R (w : World) (N Nf : Nat → Prop) (β : List Bl) : AV → Value → Prop
  | .junk, _ => True
  | .dat k x fr, v => k.rd w (if fr then Nf else N) x [v]
  | .nilsl, v => v = .slice none 0 0
  | .nilp, v => v = .pointer none
  | .nilf, v => v = .nilFunc
  | .ro k x off fr, v => ∃ b o es, v = .pointer (some ⟨b, o + off, none⟩) ∧ (if fr then Nf else N) b ∧ cellsAt w b o es ∧ k.rd w (if fr then Nf else N) x es
  | .ptr l off, v => ∃ r, β[l]? = some r ∧ v = .pointer (r.addr off)
  | .vf l, v => ∃ r A c, β[l]? = some r ∧ v = .slice A r.n c ∧ r.n ≤ c ∧ r.slice A 0 r.n c
  | .vw l off len, v => ∃ r A c, β[l]? = some r ∧ v = .slice A len c ∧ len ≤ c ∧ off + len ≤ r.n ∧ r.slice A off len c
  | .vp l i off, v => ∃ r, β[l]? = some r ∧ v = .pointer (r.addr (i * r.sz + off))
  | .fn f caps, v => ∃ bs : List Value, v = .func (.func f) #[] bs.toArray ∧ All2 (fun l b => ∃ r, β[l]? = some r ∧ b = .pointer (r.addr 0)) caps bs
  | .mp l, v => ∃ r, β[l]? = some r ∧ v = .map (some r.blk)
  | .yl l, v => ∃ r, β[l]? = some r ∧ v = .func (.yield r.blk) #[] #[]
  | .wk l, v => ∃ r, β[l]? = some r ∧ v = .pointer (some ⟨r.blk, 0, none⟩)
  | .nili, v => v = .nilIface
  | .ifc t a, v => ∃ u, v = .iface t u ∧ a.R w N Nf β u

/-- A value: one cell, a struct's or an array's cells, several results. -/
inductive TV where
  | one (a : AV)
  | agg (cs : List AV)
  | tup (cs : List (Bool × List AV))

def compR (w : World) (N Nf : Nat → Prop) (β : List Bl) (c : Bool × List AV) (v : Value) : Prop :=
  match c with
  | (true, cs) => ∃ vs : List Value, v = .agg vs.toArray ∧ All2 (AV.R w N Nf β) cs vs
  | (false, [a]) => a.R w N Nf β v
  | _ => False

def TV.R (w : World) (N Nf : Nat → Prop) (β : List Bl) : TV → Value → Prop
  | .one a, v => a.R w N Nf β v
  | .agg cs, v => ∃ vs : List Value, v = .agg vs.toArray ∧ All2 (AV.R w N Nf β) cs vs
  | .tup cs, v => ∃ vs : List Value, v = .tuple vs.toArray ∧ All2 (compR w N Nf β) cs vs

/-! ### abstract objects -/
/-- How a loop over a function stands. -/
inductive LS where
  | ready | busy
  | ret
  | exit (i : Nat)
  deriving DecidableEq

def LS.st : LS → LoopState
  | .ready => .ready
  | .busy => .busy
  | _ => .done

def LS.pe : LS → Option Code
  | .ret => some .ret
  | .exit i => some (.exit i)
  | _ => none

inductive AObj where
  | dead
  | box (T : TypeId) (cs : List AV)
  | vec (T : TypeId) (k : K) (xs : List k.den) (fr : Bool)
  | mark
  | lp (s : LS)
  | map (k v : Bool × K) (es : List (k.2.den × v.2.den)) (fr : Bool)
  | walk (m : Nat) (k v : Bool × K) (es left : List (k.2.den × v.2.den)) (cur : Option (k.2.den × v.2.den)) (fr : Bool)

/-- The blocks that an object holds. -/
def AObj.occ (r : Bl) : AObj → List Nat
  | .dead => []
  | .box _ _ => [r.blk]
  | .vec _ _ _ _ => if r.real then [r.blk] else []
  | .mark => [r.blk]
  | .lp _ => [r.blk]
  | .map _ _ _ _ => [r.blk]
  | .walk _ _ _ _ _ _ _ => [r.blk, r.base]

def valR (w : World) (N : Nat → Prop) (p : Bool × K) (x : p.2.den) (v : Value) : Prop :=
  match p.1 with
  | true => ∃ cs : List Value, v = .agg cs.toArray ∧ p.2.rd w N x cs
  | false => p.2.rd w N x [v]

/-- An entry of a map. -/
def entR (w : World) (N : Nat → Prop) (k v : Bool × K) (p : k.2.den × v.2.den) (e : MapEntry) : Prop := valR w N k p.1 e.key ∧ valR w N v p.2 e.val

/-- The stamps of a map's entries. -/
structure Stamps (es : List MapEntry) (ck : Nat) : Prop where
  lt : ∀ e ∈ es, e.born < ck
  nd : (es.map (·.born)).Nodup

def AObj.R (w : World) (N Nf : Nat → Prop) (β : List Bl) (r : Bl) : AObj → Prop
  | .dead => True
  | .box T cs => ∃ vs : List Value, w.heap[r.blk]? = some (.cells vs.toArray T (0, 0)) ∧ r.base = 0 ∧ All2 (AV.R w N Nf β) cs vs
  | .vec T k xs fr => r.n = xs.length ∧ r.sz = k.size ∧ r.n ≤ r.cap ∧
      (if r.real then ∃ pre mid post : List Value, w.heap[r.blk]? = some (.cells (pre ++ mid ++ post).toArray T (0, 0)) ∧ pre.length = r.base ∧ rows (k.rd w (if fr then Nf else N)) xs mid ∧ mid.length + post.length = r.cap * r.sz
       else r.n = 0)
  | .mark => w.heap[r.blk]? = some (.deferred (some []))
  | .lp s => ∃ rc : Loop, r.rc = some rc ∧ w.heap[r.blk]? = some (.loop { rc with state := s.st, pending := s.pe })
  | .map k v es fr => ∃ (l : List MapEntry) (ck : Nat), w.heap[r.blk]? = some (.map l.toArray ck) ∧ Stamps l ck ∧ All2 (entR w (if fr then Nf else N) k v) es l
  | .walk m k v es left cur fr => ∃ (l : List MapEntry) (ck : Nat) (seen : Array Nat) (rm : Bl), w.heap[r.base]? = some (.map l.toArray ck) ∧ w.heap[r.blk]? = some (.mapIter (some r.base) ck seen ck) ∧ r.blk ≠ r.base ∧
      β[m]? = some rm ∧ rm.blk = r.base ∧ Stamps l ck ∧ All2 (entR w (if fr then Nf else N) k v) es l ∧
      All2 (entR w (if fr then Nf else N) k v) left (l.filter fun e => !seen.contains e.born) ∧
      (match cur with
       | none => seen = #[]
       | some p => ∃ e ∈ l, seen.back? = some e.born ∧ entR w (if fr then Nf else N) k v p e)

structure AS where
  tmps : List TV
  heap : List (Bool × AObj)
  marks : List Nat := []

/-- What a block is that belongs to no live object. -/
def Free (h : List (Bool × AObj)) (β : List Bl) (b : Nat) : Prop := ∀ (l : Nat) (o : Bool × AObj) (r : Bl), h[l]? = some o → β[l]? = some r → b ∉ o.2.occ r

/-- An activation that waits. -/
structure Fr where
  tmps : List TV
  marks : List Nat
  act : Act

/-- What a call may rest on: the world in which it began, the old blocks that may be read as data, the old blocks that may be written; the activations that wait. -/
structure Cx where
  w0 : World
  N0 : Nat → Prop
  F : Nat → Prop
  frs : List Fr := []

def Cx.fresh (C : Cx) (h : List (Bool × AObj)) (β : List Bl) (w : World) (b : Nat) : Prop := C.w0.heap.size ≤ b ∧ b < w.heap.size ∧ Free h β b
def Cx.N (C : Cx) (h : List (Bool × AObj)) (β : List Bl) (w : World) (b : Nat) : Prop := (C.N0 b ∨ C.w0.heap.size ≤ b) ∧ b < w.heap.size ∧ Free h β b

/-- Old memory but for what may be written. -/
structure Kept (F : Nat → Prop) (w w' : World) : Prop where
  os : w'.os = w.os
  tape : w'.tape = w.tape
  output : w'.output = w.output
  size : w.heap.size ≤ w'.heap.size
  block : ∀ b, b < w.heap.size → ¬ F b → w'.heap[b]? = w.heap[b]?

/-- An activation that waits is as it is told. -/
structure FrR (h : List (Bool × AObj)) (w : World) (N Nf : Nat → Prop) (β : List Bl) (f : Fr) : Prop where
  defers : ∃ bs, f.act.defers = bs.map (fun b => { target := .collected b, args := #[] }) ∧ All2 (fun l b => ∃ r, β[l]? = some r ∧ b = r.blk ∧ h[l]? = some (true, .mark)) f.marks bs
  tsize : f.act.tmps.size = f.tmps.length
  tm : ∀ (i : Nat) (t : TV), f.tmps[i]? = some t → t.R w N Nf β (f.act.tmps.getD i undef)

structure Rel (C : Cx) (s : AS) (β : List Bl) (a : Act) (w : World) : Prop where
  defers : ∃ bs, a.defers = bs.map (fun b => { target := .collected b, args := #[] }) ∧ All2 (fun l b => ∃ r, β[l]? = some r ∧ b = r.blk ∧ s.heap[l]? = some (true, .mark)) s.marks bs
  tsize : a.tmps.size = s.tmps.length
  tm : ∀ (i : Nat) (t : TV), s.tmps[i]? = some t → t.R w (C.N s.heap β w) (C.fresh s.heap β w) β (a.tmps.getD i undef)
  bsize : β.length = s.heap.length
  ob : ∀ (l : Nat) (o : Bool × AObj) (r : Bl), s.heap[l]? = some o → β[l]? = some r → o.2.R w (C.N s.heap β w) (C.fresh s.heap β w) β r
  occ : ∀ (l : Nat) (o : Bool × AObj) (r : Bl) (b : Nat), s.heap[l]? = some o → β[l]? = some r → b ∈ o.2.occ r → b < w.heap.size ∧ (C.w0.heap.size ≤ b ∨ C.F b)
  apart : ∀ (l l' : Nat) (o o' : Bool × AObj) (r r' : Bl) (b : Nat), s.heap[l]? = some o → β[l]? = some r → s.heap[l']? = some o' → β[l']? = some r' → b ∈ o.2.occ r → b ∈ o'.2.occ r' → l = l'
  keep : Kept C.F C.w0 w
  frs : ∀ f ∈ C.frs, FrR s.heap w (C.N s.heap β w) (C.fresh s.heap β w) β f
end Go.Proofs.AM
