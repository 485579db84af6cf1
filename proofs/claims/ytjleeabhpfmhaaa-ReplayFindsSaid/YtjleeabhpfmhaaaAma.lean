/- A machine that reckons what a function of the program comes to, and that what it reckons is what the program does. No condition. -/
import Derived.WalkKit
import Derived.OrdersIn
import Derived.RangeFuncWrites
import Derived.RangeFuncLeaves
import Derived.RangeFuncCalls
import Derived.KernelRfl
import Derived.Laws.BytesArg
import Derived.Laws.StructEq
import Derived.Lib.MakeNoZero
set_option maxRecDepth 2000
set_option linter.unusedVariables false
set_option linter.unusedSimpArgs false
section
namespace Go.Proofs.AM
open Go Go.RowKit

def All2 {α β : Type} (R : α → β → Prop) : List α → List β → Prop
  | [], [] => True
  | a :: l, b :: m => R a b ∧ All2 R l m
  | _, _ => False

theorem All2.len {α β : Type} {R : α → β → Prop} : ∀ {l : List α} {m : List β}, All2 R l m → l.length = m.length
  | [], [], _ => rfl
  | _ :: _, _ :: _, h => by simp [All2.len h.2]
  | [], _ :: _, h => h.elim
  | _ :: _, [], h => h.elim

theorem All2.mono {α β : Type} {R S : α → β → Prop} (h : ∀ a b, R a b → S a b) : ∀ {l : List α} {m : List β}, All2 R l m → All2 S l m
  | [], [], _ => trivial
  | _ :: _, _ :: _, x => ⟨h _ _ x.1, All2.mono h x.2⟩
  | [], _ :: _, x => x.elim
  | _ :: _, [], x => x.elim

theorem All2.get {α β : Type} {R : α → β → Prop} : ∀ {l : List α} {m : List β}, All2 R l m → ∀ {i : Nat} {a : α}, l[i]? = some a → ∃ b, m[i]? = some b ∧ R a b
  | [], [], _, _, _, e => by simp at e
  | x :: _, y :: _, h, 0, a, e => by simp at e; exact ⟨y, by simp, e ▸ h.1⟩
  | _ :: _, _ :: _, h, i + 1, a, e => by simp at e; simpa using All2.get h.2 e
  | [], _ :: _, h, _, _, _ => h.elim
  | _ :: _, [], h, _, _, _ => h.elim

theorem All2.app {α β : Type} {R : α → β → Prop} : ∀ {l : List α} {m : List β} {l' : List α} {m' : List β}, All2 R l m → All2 R l' m' → All2 R (l ++ l') (m ++ m')
  | [], [], _, _, _, h => h
  | _ :: _, _ :: _, _, _, h, h' => ⟨h.1, All2.app h.2 h'⟩
  | [], _ :: _, _, _, h, _ => h.elim
  | _ :: _, [], _, _, h, _ => h.elim

theorem All2.of_app {α β : Type} {R : α → β → Prop} : ∀ {l l' : List α} {m : List β}, All2 R (l ++ l') m → ∃ m1 m2, m = m1 ++ m2 ∧ All2 R l m1 ∧ All2 R l' m2
  | [], _, m, h => ⟨[], m, rfl, trivial, h⟩
  | a :: l, l', b :: m, h => by
    obtain ⟨m1, m2, e, h1, h2⟩ := All2.of_app (l := l) h.2
    exact ⟨b :: m1, m2, by simp [e], ⟨h.1, h1⟩, h2⟩
  | _ :: _, _, [], h => h.elim

theorem All2.take {α β : Type} {R : α → β → Prop} : ∀ {l : List α} {m : List β} (n : Nat), All2 R l m → All2 R (l.take n) (m.take n)
  | [], [], _, _ => by simp [All2]
  | _ :: _, _ :: _, 0, _ => by simp [All2]
  | _ :: _, _ :: _, n + 1, h => ⟨h.1, All2.take n h.2⟩
  | [], _ :: _, _, h => h.elim
  | _ :: _, [], _, h => h.elim

theorem All2.drop {α β : Type} {R : α → β → Prop} : ∀ {l : List α} {m : List β} (n : Nat), All2 R l m → All2 R (l.drop n) (m.drop n)
  | [], [], _, _ => by simp [All2]
  | _ :: _, _ :: _, 0, h => h
  | _ :: _, _ :: _, n + 1, h => All2.drop n h.2
  | [], _ :: _, _, h => h.elim
  | _ :: _, [], _, h => h.elim

theorem All2.set {α β : Type} {R : α → β → Prop} : ∀ {l : List α} {m : List β} (i : Nat) {a : α} {b : β}, All2 R l m → R a b → All2 R (l.set i a) (m.set i b)
  | [], [], _, _, _, _, _ => by simp [All2]
  | _ :: _, _ :: _, 0, _, _, h, r => ⟨r, h.2⟩
  | _ :: _, _ :: _, i + 1, _, _, h, r => ⟨h.1, All2.set i h.2 r⟩
  | [], _ :: _, _, _, _, h, _ => h.elim
  | _ :: _, [], _, _, _, h, _ => h.elim

def rows {α : Type} (R : α → List Value → Prop) : List α → List Value → Prop
  | [], cs => cs = []
  | x :: xs, cs => ∃ c cs', cs = c ++ cs' ∧ R x c ∧ rows R xs cs'

theorem rows.mono {α : Type} {R S : α → List Value → Prop} (h : ∀ a b, R a b → S a b) : ∀ {l : List α} {m : List Value}, rows R l m → rows S l m
  | [], _, x => x
  | _ :: _, _, ⟨c, cs', e, r, t⟩ => ⟨c, cs', e, h _ _ r, rows.mono h t⟩

theorem rows.app {α : Type} {R : α → List Value → Prop} : ∀ {l l' : List α} {m m' : List Value}, rows R l m → rows R l' m' → rows R (l ++ l') (m ++ m')
  | [], _, _, _, x, y => by simp [rows] at x; simpa [x] using y
  | _ :: _, _, _, m', ⟨c, cs', e, r, t⟩, y => ⟨c, cs' ++ m', by simp [e], r, rows.app t y⟩

theorem rows.of_app {α : Type} {R : α → List Value → Prop} : ∀ {l l' : List α} {m : List Value}, rows R (l ++ l') m → ∃ m1 m2, m = m1 ++ m2 ∧ rows R l m1 ∧ rows R l' m2
  | [], _, m, x => ⟨[], m, rfl, rfl, x⟩
  | _ :: l, _, _, ⟨c, cs', e, r, t⟩ => by
    obtain ⟨m1, m2, e', h1, h2⟩ := rows.of_app (l := l) t
    exact ⟨c ++ m1, m2, by simp [e, e'], ⟨c, m1, rfl, r, h1⟩, h2⟩

theorem rows.len {α : Type} {R : α → List Value → Prop} {n : Nat} (h : ∀ x c, R x c → c.length = n) : ∀ {l : List α} {m : List Value}, rows R l m → m.length = l.length * n
  | [], _, x => by simp [rows] at x; simp [x]
  | _ :: l, _, ⟨c, cs', e, r, t⟩ => by
    have := rows.len h t
    have := h _ _ r
    simp [Nat.add_mul, *]; omega

def cellsAt (w : World) (b off : Nat) (cs : List Value) : Prop := ∀ j v, cs[j]? = some v → w.cell? ⟨b, off + j, none⟩ = some v

theorem cellsAt.app {w : World} {b off : Nat} {c d : List Value} (h : cellsAt w b off (c ++ d)) : cellsAt w b off c ∧ cellsAt w b (off + c.length) d := by
  refine ⟨fun j v e => h j v ?_, fun j v e => ?_⟩
  · rw [List.getElem?_append_left (by have := (List.getElem?_eq_some_iff.1 e).1; exact this)]; exact e
  · have := h (c.length + j) v (by rw [List.getElem?_append_right (by omega)]; simpa using e)
    rw [show off + c.length + j = off + (c.length + j) from by omega]; exact this

theorem cellsAt.block {w w' : World} {b off : Nat} {c : List Value} (h : cellsAt w b off c) (hb : w'.heap[b]? = w.heap[b]?) : cellsAt w' b off c := fun j v e => by
  rw [World.cell?_of_block (w := w) hb]; exact h j v e

inductive K where
  | int (k : IntKind) | bool | str | unit
  | pair (a b : K)
  | sl (k : K)
  | rp (k : K)
  | ar (n : Nat) (k : K)
  deriving DecidableEq

@[reducible] def K.den : K → Type
  | .int _ => Int
  | .bool => Bool
  | .str => ByteArray
  | .unit => Unit
  | .pair a b => a.den × b.den
  | .sl k => List k.den
  | .rp k => k.den
  | .ar _ k => List k.den

def K.size : K → Nat
  | .unit => 0
  | .pair a b => a.size + b.size
  | .ar n k => n * k.size
  | _ => 1

def K.rd (w : World) (N : Nat → Prop) : (k : K) → k.den → List Value → Prop
  | .int k, n, cs => cs = [.int k n]
  | .bool, b, cs => cs = [.bool b]
  | .str, s, cs => cs = [.string s]
  | .unit, _, cs => cs = []
  | .pair a b, x, cs => ∃ c d, cs = c ++ d ∧ a.rd w N x.1 c ∧ b.rd w N x.2 d
  | .sl k, xs, cs => ∃ A c, cs = [.slice A (List.length xs) c] ∧ List.length xs ≤ c ∧ (List.length xs = 0 ∨ ∃ b off es, A = some ⟨b, off, none⟩ ∧ N b ∧ cellsAt w b off es ∧ rows (k.rd w N) xs es)
  | .rp k, x, cs => ∃ b off es, cs = [.pointer (some ⟨b, off, none⟩)] ∧ N b ∧ cellsAt w b off es ∧ k.rd w N x es
  | .ar n k, xs, cs => List.length xs = n ∧ rows (k.rd w N) xs cs

theorem K.rd_len (w : World) (N : Nat → Prop) : ∀ (k : K) (x : k.den) (cs : List Value), k.rd w N x cs → cs.length = k.size
  | .int k, n, cs, h => by simp [K.rd] at h; simp [h, K.size]
  | .bool, b, cs, h => by simp [K.rd] at h; simp [h, K.size]
  | .str, s, cs, h => by simp [K.rd] at h; simp [h, K.size]
  | .unit, _, cs, h => by simp [K.rd] at h; simp [h, K.size]
  | .pair a b, x, cs, h => by
    obtain ⟨c, d, rfl, h1, h2⟩ := h
    simp [K.size, K.rd_len w N a _ _ h1, K.rd_len w N b _ _ h2]
  | .sl k, xs, cs, h => by obtain ⟨A, c, rfl, _⟩ := h; simp [K.size]
  | .rp k, xs, cs, h => by obtain ⟨A, c, _, rfl, _⟩ := h; simp [K.size]
  | .ar n k, x, cs, h => by
    obtain ⟨h1, h2⟩ := h
    rw [rows.len (fun y c hy => K.rd_len w N k y c hy) h2, h1, K.size]

theorem K.rd_mono {w w' : World} {N N' : Nat → Prop} (hb : ∀ b, N b → w'.heap[b]? = w.heap[b]?) (hN : ∀ b, N b → N' b) : ∀ (k : K) (x : k.den) (cs : List Value), k.rd w N x cs → k.rd w' N' x cs
  | .int k, n, cs, h => h
  | .bool, b, cs, h => h
  | .str, s, cs, h => h
  | .unit, _, cs, h => h
  | .pair a b, x, cs, h => by
    obtain ⟨c, d, e, h1, h2⟩ := h
    exact ⟨c, d, e, K.rd_mono hb hN a _ _ h1, K.rd_mono hb hN b _ _ h2⟩
  | .sl k, xs, cs, h => by
    obtain ⟨A, c, e, hl, h⟩ := h
    refine ⟨A, c, e, hl, ?_⟩
    rcases h with h | ⟨b, off, es, hA, hNb, hc, hr⟩
    · exact .inl h
    · exact .inr ⟨b, off, es, hA, hN _ hNb, hc.block (hb _ hNb), hr.mono (fun a b => K.rd_mono hb hN k a b)⟩
  | .rp k, x, cs, h => by
    obtain ⟨b, off, es, e, hNb, hc, hr⟩ := h
    exact ⟨b, off, es, e, hN _ hNb, hc.block (hb _ hNb), K.rd_mono hb hN k _ _ hr⟩
  | .ar n k, x, cs, h => ⟨h.1, h.2.mono fun a b => K.rd_mono hb hN k a b⟩

def K.flat : K → Bool
  | .sl _ | .rp _ => false
  | .pair a b => a.flat && b.flat
  | .ar _ k => k.flat
  | _ => true

theorem K.rd_flat {w w' : World} {N N' : Nat → Prop} : ∀ (k : K) (x : k.den) (cs : List Value), k.flat = true → k.rd w N x cs → k.rd w' N' x cs
  | .int k, n, cs, _, h => h
  | .bool, b, cs, _, h => h
  | .str, s, cs, _, h => h
  | .unit, _, cs, _, h => h
  | .pair a b, x, cs, f, h => by
    simp [K.flat] at f
    obtain ⟨c, d, e, h1, h2⟩ := h
    exact ⟨c, d, e, K.rd_flat a _ _ f.1 h1, K.rd_flat b _ _ f.2 h2⟩
  | .sl k, xs, cs, f, h => by simp [K.flat] at f
  | .rp k, x, cs, f, h => by simp [K.flat] at f
  | .ar n k, x, cs, f, h => ⟨h.1, h.2.mono fun a b => K.rd_flat k a b f⟩

inductive AV where
  | junk
  | dat (k : K) (x : k.den) (fr : Bool)
  | nilsl | nilp | nilf
  | ro (k : K) (x : k.den) (off : Nat) (fr : Bool)
  | ptr (l off : Nat)
  | vf (l : Nat)
  | vw (l off len : Nat)
  | vp (l i off : Nat)
  | fn (f : FuncId) (caps : List Nat)
  | mp (l : Nat)
  | yl (l : Nat)
  | wk (l : Nat)
  | st (l : Nat)
  | nili
  | ifc (t : TypeId) (a : AV)
  | hv (nm n sz : Nat)
  | hw (nm off n sz : Nat)
  | dv (nm p i : Nat)
  | dp (p i j off : Nat)

structure IB where
  blk : Nat
  base : Nat
  sz : Nat
  n : Nat
  cap : Nat
  real : Bool

def IB.slice (r : IB) (A : Option Addr) (c : Nat) : Prop := (r.real = true ∧ A = some ⟨r.blk, r.base, none⟩ ∧ c ≤ r.cap) ∨ (r.n = 0 ∧ c = 0)

def IB.row (w : World) (T : TypeId) (k : K) (r : IB) (xs : List k.den) : Prop := r.n = xs.length ∧ r.sz = k.size ∧ r.n ≤ r.cap ∧
  (if r.real then ∃ pre mid post : List Value, w.heap[r.blk]? = some (.cells (pre ++ mid ++ post).toArray T (0, 0)) ∧ pre.length = r.base ∧ rows (k.rd w (fun _ => False)) xs mid ∧ mid.length + post.length = r.cap * r.sz
   else r.n = 0)

def drows (w : World) (kh ki : K) (hole : Option Nat) : Nat → List (kh.den × List ki.den) → List IB → List Value → Prop
  | _, [], [], cs => cs = []
  | i, x :: xs, r :: rs, cs => ∃ (ch : List Value) (v : Value) (cs' : List Value), cs = ch ++ v :: cs' ∧ kh.rd w (fun _ => False) x.1 ch ∧
      (hole = some i ∨ ∃ A c, v = .slice A r.n c ∧ r.n ≤ c ∧ r.slice A c) ∧ drows w kh ki hole (i + 1) xs rs cs'
  | _, _, _, _ => False

structure Bl where
  blk : Nat
  base : Nat
  sz : Nat
  n : Nat
  cap : Nat
  real : Bool
  rc : Option Loop := none
  inn : List IB := []

def Bl.addr (r : Bl) (off : Nat) : Option Addr := some ⟨r.blk, r.base + off, none⟩

def Bl.slice (r : Bl) (A : Option Addr) (off len c : Nat) : Prop := (r.real = true ∧ A = r.addr (off * r.sz) ∧ off + c ≤ r.cap) ∨ (len = 0 ∧ c = 0)

def AV.R (w : World) (N Nf : Nat → Prop) (β : List Bl) : AV → Value → Prop
  | .junk, _ => True
  | .dat k x fr, v => k.rd w (if fr then Nf else N) x [v]
  | .nilsl, v => v = .slice none 0 0
  | .nilp, v => v = .pointer none
  | .nilf, v => v = .nilFunc
  | .ro k x off fr, v => ∃ b o es, v = .pointer (some ⟨b, o + off, none⟩) ∧ (if fr then Nf else N) b ∧ cellsAt w b o es ∧ k.rd w (if fr then Nf else N) x es
  | .ptr l off, v => ∃ r, β[l]? = some r ∧ v = .pointer (r.addr off)
  | .vf l, v => ∃ r A c, β[l]? = some r ∧ v = .slice A r.n c ∧ r.n ≤ c ∧ r.slice A 0 r.n c
  | .vw l off len, v => ∃ r A c, β[l]? = some r ∧ v = .slice A len c ∧ len ≤ c ∧ off + len ≤ r.n ∧ r.slice A off len c
  | .vp l i off, v => ∃ r, β[l]? = some r ∧ v = .pointer (r.addr (i * r.sz + off))
  | .fn f caps, v => ∃ bs : List Value, v = .func (.func f) #[] bs.toArray ∧ All2 (fun l b => ∃ r, β[l]? = some r ∧ b = .pointer (r.addr 0)) caps bs
  | .mp l, v => ∃ r, β[l]? = some r ∧ v = .map (some r.blk)
  | .yl l, v => ∃ r, β[l]? = some r ∧ v = .func (.yield r.blk) #[] #[]
  | .wk l, v => ∃ r, β[l]? = some r ∧ v = .pointer (some ⟨r.blk, 0, none⟩)
  | .st l, v => ∃ r, β[l]? = some r ∧ v = .int .i64 (Int.ofNat r.n)
  | .nili, v => v = .nilIface
  | .ifc t a, v => ∃ u, v = .iface t u ∧ a.R w N Nf β u
  | .hv nm n sz, v => ∃ r A c, β[nm]? = some r ∧ r.n = n ∧ r.sz = sz ∧ v = .slice A n c ∧ n ≤ c ∧ r.slice A 0 n c
  | .hw nm off n sz, v => ∃ r A c, β[nm]? = some r ∧ r.sz = sz ∧ v = .slice A n c ∧ n ≤ c ∧ off + n ≤ r.n ∧ r.slice A off n c
  | .dv nm p i, v => ∃ rn r ri A c, β[nm]? = some rn ∧ β[p]? = some r ∧ r.inn[i]? = some ri ∧ v = .slice A ri.n c ∧ ri.n ≤ c ∧ ri.slice A c
  | .dp p i j off, v => ∃ r ri, β[p]? = some r ∧ r.inn[i]? = some ri ∧ v = .pointer (some ⟨ri.blk, ri.base + j * ri.sz + off, none⟩)

def K.dflt : (k : K) → k.den
  | .int _ => (0 : Int)
  | .bool => false
  | .str => ByteArray.empty
  | .unit => ()
  | .pair a b => (a.dflt, b.dflt)
  | .sl _ => []
  | .rp k => k.dflt
  | .ar _ _ => []

def K.cells (fr : Bool) : (k : K) → k.den → List AV
  | .pair a b, x => K.cells fr a x.1 ++ K.cells fr b x.2
  | .unit, _ => []
  | .int k, x => [.dat (.int k) x true]
  | .bool, x => [.dat .bool x true]
  | .str, x => [.dat .str x true]
  | .sl k, x => [.dat (.sl k) x fr]
  | .rp k, x => [.dat (.rp k) x fr]
  | .ar n k, xs => List.flatMap (fun i => K.cells fr k (List.getD (show List k.den from xs) i k.dflt)) (List.range n)

def K.okl : (k : K) → k.den → Prop
  | .pair a b, x => a.okl x.1 ∧ b.okl x.2
  | .ar n k, xs => List.length xs = n ∧ ∀ x ∈ (show List k.den from xs), k.okl x
  | _, _ => True

inductive TV where
  | one (a : AV)
  | agg (cs : List AV)
  | tup (cs : List (Bool × List AV))
  | dat (k : K) (x : k.den) (fr : Bool)

def compR (w : World) (N Nf : Nat → Prop) (β : List Bl) (c : Bool × List AV) (v : Value) : Prop :=
  match c with
  | (true, cs) => ∃ vs : List Value, v = .agg vs.toArray ∧ All2 (AV.R w N Nf β) cs vs
  | (false, [a]) => a.R w N Nf β v
  | _ => False

def TV.R (w : World) (N Nf : Nat → Prop) (β : List Bl) : TV → Value → Prop
  | .one a, v => a.R w N Nf β v
  | .agg cs, v => ∃ vs : List Value, v = .agg vs.toArray ∧ All2 (AV.R w N Nf β) cs vs
  | .tup cs, v => ∃ vs : List Value, v = .tuple vs.toArray ∧ All2 (compR w N Nf β) cs vs
  | .dat k x fr, v => k.okl x ∧ ∃ vs : List Value, v = .agg vs.toArray ∧ All2 (AV.R w N Nf β) (K.cells fr k x) vs

inductive LS where
  | ready | busy
  | ret
  | exit (i : Nat)
  deriving DecidableEq

def LS.st : LS → LoopState
  | .ready => .ready
  | .busy => .busy
  | _ => .done

def LS.pe : LS → Option Code
  | .ret => some .ret
  | .exit i => some (.exit i)
  | _ => none

inductive AObj where
  | dead
  | box (T : TypeId) (cs : List AV)
  | vec (T : TypeId) (k : K) (xs : List k.den) (fr : Bool)
  | mark
  | lp (s : LS)
  | map (k v : Bool × K) (es : List (k.2.den × v.2.den)) (fr : Bool)
  | walk (m : Nat) (k v : Bool × K) (es left : List (k.2.den × v.2.den)) (cur : Option (k.2.den × v.2.den)) (fr : Bool)
  | pend (m : Nat) (k v : Bool × K) (x : k.2.den) (f : v.2.den → List (k.2.den × v.2.den)) (fr : Bool)
  | dbox (T : TypeId) (k : K) (x : k.den) (fr : Bool)
  | hnd (p : Nat)
  | dvec (T T' : TypeId) (kh ki : K) (xs : List (kh.den × List ki.den)) (hole : Option Nat)
  | hvec (T : TypeId) (q : K) (xs : List (List q.den)) (fr : Bool) (i m : Nat)

def Bl.deep (r : Bl) : List Nat := (if r.real then [r.blk] else []) ++ (r.inn.filter (·.real)).map (·.blk)

def AObj.occ (r : Bl) : AObj → List Nat
  | .dead => []
  | .box _ _ => [r.blk]
  | .vec _ _ _ _ => if r.real then [r.blk] else []
  | .mark => [r.blk]
  | .lp _ => [r.blk]
  | .map _ _ _ _ => [r.blk]
  | .walk _ _ _ _ _ _ _ => [r.blk, r.base]
  | .pend _ _ _ _ _ _ => [r.blk]
  | .dbox _ _ _ _ => [r.blk]
  | .hnd _ => []
  | .dvec _ _ _ _ _ _ => r.deep
  | .hvec _ _ _ _ _ _ => [r.blk]

def valR (w : World) (N : Nat → Prop) (p : Bool × K) (x : p.2.den) (v : Value) : Prop :=
  match p.1 with
  | true => ∃ cs : List Value, v = .agg cs.toArray ∧ p.2.rd w N x cs
  | false => p.2.rd w N x [v]

def entR (w : World) (N : Nat → Prop) (k v : Bool × K) (p : k.2.den × v.2.den) (e : MapEntry) : Prop := valR w N k p.1 e.key ∧ valR w N v p.2 e.val

structure Stamps (es : List MapEntry) (ck : Nat) : Prop where
  lt : ∀ e ∈ es, e.born < ck
  nd : (es.map (·.born)).Nodup

def AObj.R (w : World) (N Nf : Nat → Prop) (β : List Bl) (r : Bl) : AObj → Prop
  | .dead => True
  | .box T cs => ∃ vs : List Value, w.heap[r.blk]? = some (.cells vs.toArray T (0, 0)) ∧ r.base = 0 ∧ All2 (AV.R w N Nf β) cs vs
  | .vec T k xs fr => r.n = xs.length ∧ r.sz = k.size ∧ r.n ≤ r.cap ∧
      (if r.real then ∃ pre mid post : List Value, w.heap[r.blk]? = some (.cells (pre ++ mid ++ post).toArray T (0, 0)) ∧ pre.length = r.base ∧ rows (k.rd w (if fr then Nf else N)) xs mid ∧ mid.length + post.length = r.cap * r.sz
       else r.n = 0)
  | .mark => w.heap[r.blk]? = some (.deferred (some []))
  | .lp s => ∃ rc : Loop, r.rc = some rc ∧ w.heap[r.blk]? = some (.loop { rc with state := s.st, pending := s.pe })
  | .map k v es fr => ∃ (l : List MapEntry) (ck : Nat), w.heap[r.blk]? = some (.map l.toArray ck) ∧ Stamps l ck ∧ All2 (entR w (if fr then Nf else N) k v) es l
  | .walk m k v es left cur fr => ∃ (l : List MapEntry) (ck : Nat) (seen : Array Nat) (rm : Bl), w.heap[r.base]? = some (.map l.toArray ck) ∧ w.heap[r.blk]? = some (.mapIter (some r.base) ck seen ck) ∧ r.blk ≠ r.base ∧
      β[m]? = some rm ∧ rm.blk = r.base ∧ Stamps l ck ∧ All2 (entR w (if fr then Nf else N) k v) es l ∧
      All2 (entR w (if fr then Nf else N) k v) left (l.filter fun e => !seen.contains e.born) ∧
      (match cur with
       | none => seen = #[]
       | some p => ∃ e ∈ l, seen.back? = some e.born ∧ entR w (if fr then Nf else N) k v p e)
  | .pend m k v x f fr => ∃ (l1 l2 : List MapEntry) (e : MapEntry) (ck : Nat) (es1 es2 : List (k.2.den × v.2.den)) (rm : Bl), w.heap[r.blk]? = some (.map (l1 ++ e :: l2).toArray ck) ∧ β[m]? = some rm ∧ rm.blk = r.blk ∧
      Stamps (l1 ++ e :: l2) ck ∧ e.born = r.n ∧ All2 (entR w (if fr then Nf else N) k v) es1 l1 ∧ All2 (entR w (if fr then Nf else N) k v) es2 l2 ∧ valR w (if fr then Nf else N) k x e.key ∧ ∀ y, f y = es1 ++ (x, y) :: es2
  | .dbox T k x fr => ∃ vs : List Value, w.heap[r.blk]? = some (.cells vs.toArray T (0, 0)) ∧ r.base = 0 ∧ k.rd w (if fr then Nf else N) x vs
  | .hnd p => ∃ rp : Bl, β[p]? = some rp ∧ rp.blk = r.blk ∧ rp.base = r.base ∧ rp.sz = r.sz ∧ rp.n = r.n ∧ rp.cap = r.cap ∧ rp.real = r.real
  | .dvec T T' kh ki xs hole => r.n = xs.length ∧ r.sz = kh.size + 1 ∧ r.n ≤ r.cap ∧ kh.flat = true ∧ ki.flat = true ∧ r.deep.Nodup ∧ All2 (fun (ri : IB) (x : kh.den × List ki.den) => ri.row w T' ki x.2) r.inn xs ∧
      (if r.real then ∃ pre mid post : List Value, w.heap[r.blk]? = some (.cells (pre ++ mid ++ post).toArray T (0, 0)) ∧ pre.length = r.base ∧ drows w kh ki hole 0 xs r.inn mid ∧ mid.length + post.length = r.cap * r.sz
       else r.n = 0)
  | .hvec T q xs fr i m => ∃ (pre m1 : List Value) (v : Value) (m2 post : List Value), (AV.vf m).R w N Nf β v ∧ w.heap[r.blk]? = some (.cells (pre ++ (m1 ++ v :: m2) ++ post).toArray T (0, 0)) ∧
      r.n = xs.length ∧ r.sz = 1 ∧ r.n ≤ r.cap ∧ r.real = true ∧ i < xs.length ∧ pre.length = r.base ∧ (m1 ++ v :: m2).length + post.length = r.cap * r.sz ∧
      rows ((K.sl q).rd w (if fr then Nf else N)) (xs.take i) m1 ∧ rows ((K.sl q).rd w (if fr then Nf else N)) (xs.drop (i + 1)) m2

structure AS where
  tmps : List TV
  heap : List (Bool × AObj)
  marks : List Nat := []

def Free (h : List (Bool × AObj)) (β : List Bl) (b : Nat) : Prop := ∀ (l : Nat) (o : Bool × AObj) (r : Bl), h[l]? = some o → β[l]? = some r → b ∉ o.2.occ r

structure Fr where
  tmps : List TV
  marks : List Nat
  act : Act

structure Cx where
  w0 : World
  N0 : Nat → Prop
  F : Nat → Prop
  frs : List Fr := []

def Cx.fresh (C : Cx) (h : List (Bool × AObj)) (β : List Bl) (w : World) (b : Nat) : Prop := C.w0.heap.size ≤ b ∧ b < w.heap.size ∧ Free h β b
def Cx.N (C : Cx) (h : List (Bool × AObj)) (β : List Bl) (w : World) (b : Nat) : Prop := (C.N0 b ∨ C.w0.heap.size ≤ b) ∧ b < w.heap.size ∧ Free h β b

structure Kept (F : Nat → Prop) (w w' : World) : Prop where
  os : w'.os = w.os
  tape : w'.tape = w.tape
  output : w'.output = w.output
  size : w.heap.size ≤ w'.heap.size
  block : ∀ b, b < w.heap.size → ¬ F b → w'.heap[b]? = w.heap[b]?
  drawn : w.drawn ≤ w'.drawn

structure FrR (h : List (Bool × AObj)) (w : World) (N Nf : Nat → Prop) (β : List Bl) (f : Fr) : Prop where
  defers : ∃ bs, f.act.defers = bs.map (fun b => { target := .collected b, args := #[] }) ∧ All2 (fun l b => ∃ r, β[l]? = some r ∧ b = r.blk ∧ h[l]? = some (true, .mark)) f.marks bs
  tsize : f.act.tmps.size = f.tmps.length
  tm : ∀ (i : Nat) (t : TV), f.tmps[i]? = some t → t.R w N Nf β (f.act.tmps.getD i undef)

structure Rel (C : Cx) (s : AS) (β : List Bl) (a : Act) (w : World) : Prop where
  defers : ∃ bs, a.defers = bs.map (fun b => { target := .collected b, args := #[] }) ∧ All2 (fun l b => ∃ r, β[l]? = some r ∧ b = r.blk ∧ s.heap[l]? = some (true, .mark)) s.marks bs
  tsize : a.tmps.size = s.tmps.length
  tm : ∀ (i : Nat) (t : TV), s.tmps[i]? = some t → t.R w (C.N s.heap β w) (C.fresh s.heap β w) β (a.tmps.getD i undef)
  bsize : β.length = s.heap.length
  ob : ∀ (l : Nat) (o : Bool × AObj) (r : Bl), s.heap[l]? = some o → β[l]? = some r → o.2.R w (C.N s.heap β w) (C.fresh s.heap β w) β r
  occ : ∀ (l : Nat) (o : Bool × AObj) (r : Bl) (b : Nat), s.heap[l]? = some o → β[l]? = some r → b ∈ o.2.occ r → b < w.heap.size ∧ (C.w0.heap.size ≤ b ∨ C.F b)
  apart : ∀ (l l' : Nat) (o o' : Bool × AObj) (r r' : Bl) (b : Nat), s.heap[l]? = some o → β[l]? = some r → s.heap[l']? = some o' → β[l']? = some r' → b ∈ o.2.occ r → b ∈ o'.2.occ r' → l = l'
  keep : Kept C.F C.w0 w
  frs : ∀ f ∈ C.frs, FrR s.heap w (C.N s.heap β w) (C.fresh s.heap β w) β f
end Go.Proofs.AM
end

section
namespace Go.Proofs.AM
open Go Go.RowKit

theorem AV.R_mono {w w' : World} {N Nf N' Nf' : Nat → Prop} {β β' : List Bl} (hb : ∀ b, N b → w'.heap[b]? = w.heap[b]?) (hN : ∀ b, N b → N' b)
    (hf : ∀ b, Nf b → N b) (hNf : ∀ b, Nf b → Nf' b) (hβ : ∀ (l : Nat) (r : Bl), β[l]? = some r → β'[l]? = some r) :
    ∀ (x : AV) (v : Value), x.R w N Nf β v → x.R w' N' Nf' β' v
  | .junk, _, _ => trivial
  | .dat k x true, _, h => K.rd_mono (fun b hb' => hb b (hf b hb')) hNf _ _ _ h
  | .dat k x false, _, h => K.rd_mono hb hN _ _ _ h
  | .nilsl, _, h => h
  | .nilp, _, h => h
  | .nilf, _, h => h
  | .ro k x off true, _, ⟨b, o, es, e, n, c, r⟩ => ⟨b, o, es, e, hNf _ n, c.block (hb _ (hf _ n)), K.rd_mono (fun b hb' => hb b (hf b hb')) hNf _ _ _ r⟩
  | .ro k x off false, _, ⟨b, o, es, e, n, c, r⟩ => ⟨b, o, es, e, hN _ n, c.block (hb _ n), K.rd_mono hb hN _ _ _ r⟩
  | .ptr l off, _, ⟨r, h, e⟩ => ⟨r, hβ _ _ h, e⟩
  | .vf l, _, ⟨r, A, c, h, e⟩ => ⟨r, A, c, hβ _ _ h, e⟩
  | .vw l off len, _, ⟨r, A, c, h, e⟩ => ⟨r, A, c, hβ _ _ h, e⟩
  | .vp l i off, _, ⟨r, h, e⟩ => ⟨r, hβ _ _ h, e⟩
  | .fn f caps, _, ⟨bs, e, h⟩ => ⟨bs, e, h.mono fun l b ⟨r, hr, e⟩ => ⟨r, hβ _ _ hr, e⟩⟩
  | .mp l, _, ⟨r, h, e⟩ => ⟨r, hβ _ _ h, e⟩
  | .yl l, _, ⟨r, h, e⟩ => ⟨r, hβ _ _ h, e⟩
  | .wk l, _, ⟨r, h, e⟩ => ⟨r, hβ _ _ h, e⟩
  | .st l, _, ⟨r, h, e⟩ => ⟨r, hβ _ _ h, e⟩
  | .nili, _, h => h
  | .ifc t a, _, ⟨u, e, h⟩ => ⟨u, e, AV.R_mono hb hN hf hNf hβ a u h⟩
  | .hv nm n sz, _, ⟨r, A, c, h, e⟩ => ⟨r, A, c, hβ _ _ h, e⟩
  | .hw nm off n sz, _, ⟨r, A, c, h, e⟩ => ⟨r, A, c, hβ _ _ h, e⟩
  | .dv nm p i, _, ⟨rn, r, ri, A, c, hn, h, e⟩ => ⟨rn, r, ri, A, c, hβ _ _ hn, hβ _ _ h, e⟩
  | .dp p i j off, _, ⟨r, ri, h, e⟩ => ⟨r, ri, hβ _ _ h, e⟩

theorem IB.row_block {w w' : World} {T : TypeId} {k : K} (hk : k.flat = true) {r : IB} {xs : List k.den} (hb : r.real = true → w'.heap[r.blk]? = w.heap[r.blk]?) (h : r.row w T k xs) : r.row w' T k xs := by
  obtain ⟨h1, h2, h3, h4⟩ := h
  refine ⟨h1, h2, h3, ?_⟩
  by_cases hr : r.real = true
  · simp only [hr, if_true] at h4 ⊢
    obtain ⟨pre, mid, post, e, z, m, q⟩ := h4
    exact ⟨pre, mid, post, by rw [hb hr]; exact e, z, m.mono fun a b y => K.rd_flat k _ _ hk y, q⟩
  · simp only [hr] at h4 ⊢
    exact h4

theorem drows_any {w w' : World} {kh ki : K} (hk : kh.flat = true) {hole : Option Nat} : ∀ {i : Nat} {xs : List (kh.den × List ki.den)} {rs : List IB} {cs : List Value}, drows w kh ki hole i xs rs cs → drows w' kh ki hole i xs rs cs
  | _, [], [], _, h => h
  | _, _ :: _, _ :: _, _, ⟨ch, v, cs', e, h1, h2, h3⟩ => ⟨ch, v, cs', e, K.rd_flat kh _ _ hk h1, h2, drows_any hk h3⟩
  | _, [], _ :: _, _, h => h.elim
  | _, _ :: _, [], _, h => h.elim

theorem All2.imp' {α β : Type} {R S : α → β → Prop} : ∀ {l : List α} {m : List β}, (∀ a ∈ l, ∀ b, R a b → S a b) → All2 R l m → All2 S l m
  | [], [], _, _ => trivial
  | x :: l, y :: m, hi, h => ⟨hi x (by simp) y h.1, All2.imp' (fun a ha => hi a (by simp [ha])) h.2⟩
  | [], _ :: _, _, h => h.elim
  | _ :: _, [], _, h => h.elim

theorem valR_mono {w w' : World} {N N' : Nat → Prop} (hb : ∀ b, N b → w'.heap[b]? = w.heap[b]?) (hN : ∀ b, N b → N' b) {p : Bool × K} {x : p.2.den} {v : Value} (h : valR w N p x v) : valR w' N' p x v := by
  unfold valR at h ⊢
  split at h
  · obtain ⟨cs, e, h⟩ := h; exact ⟨cs, e, K.rd_mono hb hN _ _ _ h⟩
  · exact K.rd_mono hb hN _ _ _ h

theorem entR_mono {w w' : World} {N N' : Nat → Prop} (hb : ∀ b, N b → w'.heap[b]? = w.heap[b]?) (hN : ∀ b, N b → N' b) {k v : Bool × K} {p : k.2.den × v.2.den} {e : MapEntry} (h : entR w N k v p e) : entR w' N' k v p e :=
  ⟨valR_mono hb hN h.1, valR_mono hb hN h.2⟩

section
variable {w w' : World} {N Nf N' Nf' : Nat → Prop} {β β' : List Bl}

theorem TV.R_mono (h : ∀ (x : AV) (v : Value), x.R w N Nf β v → x.R w' N' Nf' β' v) : ∀ (t : TV) (v : Value), t.R w N Nf β v → t.R w' N' Nf' β' v
  | .one a, v, x => h a v x
  | .agg cs, v, ⟨vs, e, x⟩ => ⟨vs, e, x.mono h⟩
  | .tup cs, v, ⟨vs, e, x⟩ => ⟨vs, e, x.mono fun c v y => by
      match c, y with
      | (true, cs), ⟨vs, e, y⟩ => exact ⟨vs, e, y.mono h⟩
      | (false, [a]), y => exact h a v y⟩
  | .dat k x fr, v, ⟨o, vs, e, y⟩ => ⟨o, vs, e, y.mono h⟩

theorem AObj.R_mono (h : ∀ (x : AV) (v : Value), x.R w N Nf β v → x.R w' N' Nf' β' v)
    (hb : ∀ b, N b → w'.heap[b]? = w.heap[b]?) (hN : ∀ b, N b → N' b) (hf : ∀ b, Nf b → N b) (hNf : ∀ b, Nf b → Nf' b) (hβ : ∀ (l : Nat) (r : Bl), β[l]? = some r → β'[l]? = some r) (r : Bl) :
    ∀ (o : AObj), (∀ b, b ∈ o.occ r → w'.heap[b]? = w.heap[b]?) → o.R w N Nf β r → o.R w' N' Nf' β' r
  | .dead, _, _ => trivial
  | .box T cs, hk, ⟨vs, e, z, x⟩ => ⟨vs, by rw [hk r.blk (by simp [AObj.occ])]; exact e, z, x.mono h⟩
  | .mark, hk, x => by show w'.heap[r.blk]? = _; rw [hk r.blk (by simp [AObj.occ])]; exact x
  | .lp s, hk, ⟨rc, e, x⟩ => ⟨rc, e, by rw [hk r.blk (by simp [AObj.occ])]; exact x⟩
  | .map k v es fr, hk, ⟨l, ck, e, st, x⟩ => ⟨l, ck, by rw [hk r.blk (by simp [AObj.occ])]; exact e, st, x.mono fun a b y => by
      cases fr
      · exact entR_mono hb hN y
      · exact entR_mono (fun b hb' => hb b (hf b hb')) hNf y⟩
  | .walk m k v es left cur fr, hk, ⟨l, ck, seen, rm, e1, e2, ne, hm, hm2, st, x, y, z⟩ => by
      have mono : ∀ (a : k.2.den × v.2.den) (b : MapEntry), entR w (if fr then Nf else N) k v a b → entR w' (if fr then Nf' else N') k v a b := by
        intro a b y
        cases fr
        · exact entR_mono hb hN y
        · exact entR_mono (fun b hb' => hb b (hf b hb')) hNf y
      refine ⟨l, ck, seen, rm, by rw [hk r.base (by simp [AObj.occ])]; exact e1, by rw [hk r.blk (by simp [AObj.occ])]; exact e2, ne, hβ _ _ hm, hm2, st, x.mono mono, y.mono mono, ?_⟩
      cases cur with
      | none => exact z
      | some p => obtain ⟨e, he, hs, hp⟩ := z; exact ⟨e, he, hs, mono _ _ hp⟩
  | .vec T k xs fr, hk, ⟨h1, h2, h3, h4⟩ => by
    refine ⟨h1, h2, h3, ?_⟩
    by_cases hr : r.real = true
    · simp only [hr, if_true] at h4 ⊢
      obtain ⟨pre, mid, post, e, z, m, q⟩ := h4
      refine ⟨pre, mid, post, by rw [hk r.blk (by simp [AObj.occ, hr])]; exact e, z, m.mono fun a b y => ?_, q⟩
      cases fr
      · exact K.rd_mono hb hN _ _ _ y
      · exact K.rd_mono (fun b hb' => hb b (hf b hb')) hNf _ _ _ y
    · simp only [hr] at h4 ⊢
      exact h4
  | .pend m k v y f fr, hk, ⟨l1, l2, e, ck, es1, es2, rm, e1, hm, hm2, st, hb', z1, z2, z3, z4⟩ => by
      have mono : ∀ (a : k.2.den × v.2.den) (b : MapEntry), entR w (if fr then Nf else N) k v a b → entR w' (if fr then Nf' else N') k v a b := by
        intro a b y
        cases fr
        · exact entR_mono hb hN y
        · exact entR_mono (fun b hb' => hb b (hf b hb')) hNf y
      refine ⟨l1, l2, e, ck, es1, es2, rm, by rw [hk r.blk (by simp [AObj.occ])]; exact e1, hβ _ _ hm, hm2, st, hb', z1.mono mono, z2.mono mono, ?_, z4⟩
      cases fr
      · exact valR_mono hb hN z3
      · exact valR_mono (fun b hb' => hb b (hf b hb')) hNf z3
  | .dbox T k x fr, hk, ⟨vs, e, z, y⟩ => ⟨vs, by rw [hk r.blk (by simp [AObj.occ])]; exact e, z, by
      cases fr
      · exact K.rd_mono hb hN _ _ _ y
      · exact K.rd_mono (fun b hb' => hb b (hf b hb')) hNf _ _ _ y⟩
  | .hnd p, _, ⟨rp, hp, e⟩ => ⟨rp, hβ _ _ hp, e⟩
  | .dvec T T' kh ki xs hole, hk, ⟨h1, h2, h3, f1, f2, nd, h4, h5⟩ => by
    have hk : ∀ b, b ∈ r.deep → w'.heap[b]? = w.heap[b]? := hk
    refine ⟨h1, h2, h3, f1, f2, nd, h4.imp' fun ri hri x hx => IB.row_block f2 (fun hreal => hk _ (List.mem_append_right _ (List.mem_map.2 ⟨ri, List.mem_filter.2 ⟨hri, hreal⟩, rfl⟩))) hx, ?_⟩
    · by_cases hr : r.real = true
      · simp only [hr, if_true] at h5 ⊢
        obtain ⟨pre, mid, post, e, z, m, q⟩ := h5
        exact ⟨pre, mid, post, by rw [hk r.blk (by unfold Bl.deep; simp [hr])]; exact e, z, drows_any f1 m, q⟩
      · simp only [hr] at h5 ⊢
        exact h5
  | .hvec T q xs fr i m, hk, ⟨pre, m1, v, m2, post, hv, e, g1, g2, g3, g4, g5, g6, g7, r1, r2⟩ => by
    have mono : ∀ (a : (K.sl q).den) (b : List Value), (K.sl q).rd w (if fr then Nf else N) a b → (K.sl q).rd w' (if fr then Nf' else N') a b := by
      intro a b y
      cases fr
      · exact K.rd_mono hb hN _ _ _ y
      · exact K.rd_mono (fun b hb' => hb b (hf b hb')) hNf _ _ _ y
    exact ⟨pre, m1, v, m2, post, h _ _ hv, by rw [hk r.blk (by simp [AObj.occ])]; exact e, g1, g2, g3, g4, g5, g6, g7, r1.mono mono, r2.mono mono⟩
end

theorem Kept.refl (F : Nat → Prop) (w : World) : Kept F w w := ⟨rfl, rfl, rfl, Nat.le_refl _, fun _ _ _ => rfl, Nat.le_refl _⟩

theorem Cx.fresh_N {C : Cx} {h : List (Bool × AObj)} {β : List Bl} {w : World} {b : Nat} (x : C.fresh h β w b) : C.N h β w b := ⟨.inr x.1, x.2.1, x.2.2⟩

theorem get_app {α : Type} {l l' : List α} {i : Nat} {a : α} (h : l[i]? = some a) : (l ++ l')[i]? = some a := by
  rw [List.getElem?_append_left (List.getElem?_eq_some_iff.1 h).1]; exact h

theorem All2.imp {α β : Type} {R S : α → β → Prop} : ∀ {l : List α} {m : List β}, (∀ a ∈ l, ∀ b, R a b → S a b) → All2 R l m → All2 S l m
  | [], [], _, _ => trivial
  | x :: l, y :: m, hi, h => ⟨hi x (by simp) y h.1, All2.imp (fun a ha => hi a (by simp [ha])) h.2⟩
  | [], _ :: _, _, h => h.elim
  | _ :: _, [], _, h => h.elim

theorem Rel.gen {C : Cx} {s : AS} {β : List Bl} {a : Act} {w : World} (R : Rel C s β a w) (h' : List (Bool × AObj)) (δ : List Bl) (w' : World) (Ch : Nat → Prop)
    (hos : w'.os = w.os) (htape : w'.tape = w.tape) (hout : w'.output = w.output) (hsz : w.heap.size ≤ w'.heap.size)
    (hlen : h'.length = s.heap.length + δ.length)
    (hun : ∀ (l : Nat) (o : Bool × AObj), s.heap[l]? = some o → ¬ Ch l → ∃ o', h'[l]? = some o' ∧ o'.2 = o.2)
    (hmark : ∀ l, (l ∈ s.marks ∨ ∃ f ∈ C.frs, l ∈ f.marks) → s.heap[l]? = some (true, .mark) → h'[l]? = some (true, .mark))
    (hblk : ∀ b, b < w.heap.size → (∀ (l : Nat) (o : Bool × AObj) (r : Bl), s.heap[l]? = some o → β[l]? = some r → Ch l → b ∉ o.2.occ r) → w'.heap[b]? = w.heap[b]?)
    (hocc : ∀ (l : Nat) (o : Bool × AObj) (r : Bl) (b : Nat), h'[l]? = some o → (β ++ δ)[l]? = some r → (Ch l ∨ s.heap.length ≤ l) → b ∈ o.2.occ r →
      b < w'.heap.size ∧ (w.heap.size ≤ b ∨ ∃ (l0 : Nat) (o0 : Bool × AObj) (r0 : Bl), s.heap[l0]? = some o0 ∧ β[l0]? = some r0 ∧ Ch l0 ∧ b ∈ o0.2.occ r0))
    (hap : ∀ (l l' : Nat) (o o' : Bool × AObj) (r r' : Bl) (b : Nat), h'[l]? = some o → (β ++ δ)[l]? = some r → h'[l']? = some o' → (β ++ δ)[l']? = some r' →
      (Ch l ∨ s.heap.length ≤ l) → (Ch l' ∨ s.heap.length ≤ l') → b ∈ o.2.occ r → b ∈ o'.2.occ r' → l = l')
    (hR : ∀ (l : Nat) (o : Bool × AObj) (r : Bl), h'[l]? = some o → (β ++ δ)[l]? = some r → (Ch l ∨ s.heap.length ≤ l) →
      (∀ (x : AV) (v : Value), x.R w (C.N s.heap β w) (C.fresh s.heap β w) β v → x.R w' (C.N h' (β ++ δ) w') (C.fresh h' (β ++ δ) w') (β ++ δ) v) →
      (∀ b, C.N s.heap β w b → C.N h' (β ++ δ) w' b) → (∀ b, C.fresh s.heap β w b → C.fresh h' (β ++ δ) w' b) → (∀ b, C.N s.heap β w b → w'.heap[b]? = w.heap[b]?) →
      o.2.R w' (C.N h' (β ++ δ) w') (C.fresh h' (β ++ δ) w') (β ++ δ) r) (hdr : w.drawn ≤ w'.drawn := by exact Nat.le_refl _) :
    Rel C { s with heap := h' } (β ++ δ) a w' ∧
      (∀ (x : AV) (v : Value), x.R w (C.N s.heap β w) (C.fresh s.heap β w) β v → x.R w' (C.N h' (β ++ δ) w') (C.fresh h' (β ++ δ) w') (β ++ δ) v) := by
  have hold : ∀ (l : Nat) (o : Bool × AObj), h'[l]? = some o → ¬ (Ch l ∨ s.heap.length ≤ l) → ∃ o0 r0, s.heap[l]? = some o0 ∧ o.2 = o0.2 ∧ β[l]? = some r0 ∧ (β ++ δ)[l]? = some r0 := by
    intro l o ho hn
    have h1 : ¬ Ch l := fun x => hn (.inl x)
    have h2 : l < s.heap.length := Nat.lt_of_not_le fun x => hn (.inr x)
    obtain ⟨o0, e0⟩ : ∃ o0, s.heap[l]? = some o0 := ⟨_, List.getElem?_eq_getElem h2⟩
    obtain ⟨r0, er⟩ : ∃ r0, β[l]? = some r0 := ⟨_, List.getElem?_eq_getElem (by rw [R.bsize]; exact h2)⟩
    obtain ⟨o', e', e2⟩ := hun l o0 e0 h1
    rw [ho] at e'; cases e'
    exact ⟨o0, r0, e0, e2, er, get_app er⟩
  have hfree : ∀ b, b < w.heap.size → Free s.heap β b → Free h' (β ++ δ) b := by
    intro b hb hf l o r ho hr hx
    by_cases hn : Ch l ∨ s.heap.length ≤ l
    · obtain ⟨_, h⟩ := hocc l o r b ho hr hn hx
      rcases h with h | ⟨l0, o0, r0, e0, er0, _, hx0⟩
      · omega
      · exact hf l0 o0 r0 e0 er0 hx0
    · obtain ⟨o0, r0, e0, e2, er, er'⟩ := hold l o ho hn
      rw [hr] at er'; cases er'
      exact hf l o0 _ e0 er (e2 ▸ hx)
  have hN : ∀ b, C.N s.heap β w b → C.N h' (β ++ δ) w' b := fun b h => ⟨h.1, by have := h.2.1; omega, hfree b h.2.1 h.2.2⟩
  have hNf : ∀ b, C.fresh s.heap β w b → C.fresh h' (β ++ δ) w' b := fun b h => ⟨h.1, by have := h.2.1; omega, hfree b h.2.1 h.2.2⟩
  have hb : ∀ b, C.N s.heap β w b → w'.heap[b]? = w.heap[b]? := fun b h => hblk b h.2.1 fun l o r e1 e2 _ => h.2.2 l o r e1 e2
  have hv : ∀ (x : AV) (v : Value), x.R w (C.N s.heap β w) (C.fresh s.heap β w) β v → x.R w' (C.N h' (β ++ δ) w') (C.fresh h' (β ++ δ) w') (β ++ δ) v :=
    AV.R_mono hb hN (fun b h => Cx.fresh_N h) hNf (fun l r h => get_app h)
  refine ⟨?_, hv⟩
  refine { defers := ?_, tsize := R.tsize, tm := fun i t h => TV.R_mono hv _ _ (R.tm i t h), bsize := by simp [R.bsize, hlen], ob := ?_, occ := ?_, apart := ?_, keep := ?_
           frs := fun f hf => ?_ }
  · obtain ⟨bs, e, h⟩ := R.defers
    exact ⟨bs, e, h.imp fun l hl b ⟨r, e1, e2, e3⟩ => ⟨r, get_app e1, e2, hmark _ (.inl hl) e3⟩⟩
  · intro l o r ho hr
    by_cases hn : Ch l ∨ s.heap.length ≤ l
    · exact hR l o r ho hr hn hv hN hNf hb
    · obtain ⟨o0, r0, e0, e2, er, er'⟩ := hold l o ho hn
      rw [hr] at er'; cases er'
      show o.2.R _ _ _ _ _
      rw [e2]
      refine AObj.R_mono hv hb hN (fun b h => Cx.fresh_N h) hNf (fun l r h => get_app h) _ _ (fun b hx => hblk b (R.occ l o0 _ b e0 er hx).1 ?_) (R.ob l o0 _ e0 er)
      intro l1 o1 r1 e1 er1 hc hx1
      have := R.apart l l1 o0 o1 _ r1 b e0 er e1 er1 hx hx1
      exact hn (.inl (this ▸ hc))
  · intro l o r b ho hr hx
    by_cases hn : Ch l ∨ s.heap.length ≤ l
    · obtain ⟨h1, h⟩ := hocc l o r b ho hr hn hx
      refine ⟨h1, ?_⟩
      rcases h with h | ⟨l0, o0, r0, e0, er0, _, hx0⟩
      · exact .inl (by have := R.keep.size; omega)
      · exact (R.occ l0 o0 r0 b e0 er0 hx0).2
    · obtain ⟨o0, r0, e0, e2, er, er'⟩ := hold l o ho hn
      rw [hr] at er'; cases er'
      obtain ⟨h1, h2⟩ := R.occ l o0 _ b e0 er (e2 ▸ hx)
      exact ⟨by omega, h2⟩
  · intro l l' o o' r r' b ho hr ho' hr' hx hx'
    by_cases hn : Ch l ∨ s.heap.length ≤ l
    · by_cases hn' : Ch l' ∨ s.heap.length ≤ l'
      · exact hap l l' o o' r r' b ho hr ho' hr' hn hn' hx hx'
      · obtain ⟨o0, r0, e0, e2, er, er'⟩ := hold l' o' ho' hn'
        rw [hr'] at er'; cases er'
        obtain ⟨h1, h⟩ := hocc l o r b ho hr hn hx
        rcases h with h | ⟨l0, o1, r1, e1, er1, hc, hx0⟩
        · have := (R.occ l' o0 _ b e0 er (e2 ▸ hx')).1; omega
        · have := R.apart l0 l' o1 o0 r1 _ b e1 er1 e0 er hx0 (e2 ▸ hx')
          exact absurd (.inl (this ▸ hc)) hn'
    · obtain ⟨o0, r0, e0, e2, er, er'⟩ := hold l o ho hn
      rw [hr] at er'; cases er'
      by_cases hn' : Ch l' ∨ s.heap.length ≤ l'
      · obtain ⟨h1, h⟩ := hocc l' o' r' b ho' hr' hn' hx'
        rcases h with h | ⟨l0, o1, r1, e1, er1, hc, hx0⟩
        · have := (R.occ l o0 _ b e0 er (e2 ▸ hx)).1; omega
        · have := R.apart l0 l o1 o0 r1 _ b e1 er1 e0 er hx0 (e2 ▸ hx)
          exact absurd (.inl (this ▸ hc)) hn
      · obtain ⟨o0', r0', e0', e2', er', er''⟩ := hold l' o' ho' hn'
        rw [hr'] at er''; cases er''
        exact R.apart l l' o0 o0' _ _ b e0 er e0' er' (e2 ▸ hx) (e2' ▸ hx')
  · refine ⟨hos.trans R.keep.os, htape.trans R.keep.tape, hout.trans R.keep.output, by have := R.keep.size; omega, fun b hb hf => ?_, Nat.le_trans R.keep.drawn hdr⟩
    rw [← R.keep.block b hb hf]
    refine hblk b (by have := R.keep.size; omega) fun l o r e1 e2 _ hx => ?_
    rcases (R.occ l o r b e1 e2 hx).2 with h | h
    · omega
    · exact hf h
  · have q := R.frs f hf
    refine ⟨?_, q.tsize, fun i t h => TV.R_mono hv _ _ (q.tm i t h)⟩
    obtain ⟨bs, e, h⟩ := q.defers
    exact ⟨bs, e, h.imp fun l hl b ⟨r, e1, e2, e3⟩ => ⟨r, get_app e1, e2, hmark _ (.inr ⟨f, hf, hl⟩) e3⟩⟩

def AS.put (s : AS) (d : Option Nat) (t : TV) : AS :=
  match d with
  | some i => { s with tmps := s.tmps.set i t }
  | none => s

theorem Rel.put {C : Cx} {s : AS} {β : List Bl} {a : Act} {w : World} (R : Rel C s β a w) (d : Option Nat) (t : TV) (v : Value)
    (h : t.R w (C.N s.heap β w) (C.fresh s.heap β w) β v) : Rel C (s.put d t) β (a.put d v) w := by
  cases d with
  | none => exact R
  | some d =>
    refine { R with tsize := by simp [AS.put, Act.put, R.tsize], tm := ?_ }
    intro i t' ht
    simp only [AS.put] at ht
    simp only [AS.put, Act.put]
    by_cases hi : d = i
    · subst hi
      by_cases hl : d < s.tmps.length
      · simp [hl] at ht
        subst ht
        simp [R.tsize, hl]
        exact h
      · simp [hl] at ht
    · rw [List.getElem?_set_ne hi] at ht
      have := R.tm i t' ht
      simpa [Array.getElem?_setIfInBounds_ne hi] using this

structure Grew (w w' : World) : Prop where
  os : w'.os = w.os
  tape : w'.tape = w.tape
  output : w'.output = w.output
  size : w.heap.size ≤ w'.heap.size
  block : ∀ b, b < w.heap.size → w'.heap[b]? = w.heap[b]?
  drawn : w.drawn ≤ w'.drawn

theorem Grew.refl (w : World) : Grew w w := ⟨rfl, rfl, rfl, Nat.le_refl _, fun _ _ => rfl, Nat.le_refl _⟩
theorem Grew.trans {a b c : World} (h : Grew a b) (k : Grew b c) : Grew a c :=
  ⟨k.os.trans h.os, k.tape.trans h.tape, k.output.trans h.output, Nat.le_trans h.size k.size, fun i hi => (k.block i (Nat.lt_of_lt_of_le hi h.size)).trans (h.block i hi), Nat.le_trans h.drawn k.drawn⟩
theorem Grew.alloc (w : World) (o : Obj) : Grew w (w.alloc o) := ⟨rfl, rfl, rfl, by simp, fun b hb => Below.heap_alloc w o b hb, Nat.le_refl _⟩
theorem Grew.drew (w : World) : Grew w w.drew := ⟨rfl, rfl, rfl, Nat.le_refl _, fun _ _ => rfl, Nat.le_succ _⟩

theorem Rel.grew {C : Cx} {s : AS} {β : List Bl} {a : Act} {w w' : World} (R : Rel C s β a w) (g : Grew w w') :
    Rel C s β a w' ∧ (∀ (x : AV) (v : Value), x.R w (C.N s.heap β w) (C.fresh s.heap β w) β v → x.R w' (C.N s.heap β w') (C.fresh s.heap β w') β v) := by
  have := R.gen (hdr := g.drawn) s.heap [] w' (fun _ => False) g.os g.tape g.output g.size (by simp) (fun l o h _ => ⟨o, h, rfl⟩) (fun l _ h => h) (fun b hb _ => g.block b hb)
    (fun l o r b ho hr hn => by
      rcases hn with hn | hn
      · exact hn.elim
      · have := (List.getElem?_eq_some_iff.1 ho).1; omega)
    (fun l l' o o' r r' b ho hr ho' hr' hn => by
      rcases hn with hn | hn
      · exact hn.elim
      · have := (List.getElem?_eq_some_iff.1 ho).1; omega)
    (fun l o r ho hr hn => by
      rcases hn with hn | hn
      · exact hn.elim
      · have := (List.getElem?_eq_some_iff.1 ho).1; omega)
  simpa using this

theorem Rel.push {C : Cx} {s : AS} {β : List Bl} {a : Act} {w w' : World} (R : Rel C s β a w) (g : Grew w w') (o : AObj) (r : Bl)
    (hocc : ∀ b, b ∈ o.occ r → w.heap.size ≤ b ∧ b < w'.heap.size)
    (hR : (∀ (x : AV) (v : Value), x.R w (C.N s.heap β w) (C.fresh s.heap β w) β v → x.R w' (C.N (s.heap ++ [(true, o)]) (β ++ [r]) w') (C.fresh (s.heap ++ [(true, o)]) (β ++ [r]) w') (β ++ [r]) v) →
      (∀ b, C.N s.heap β w b → C.N (s.heap ++ [(true, o)]) (β ++ [r]) w' b) → (∀ b, C.fresh s.heap β w b → C.fresh (s.heap ++ [(true, o)]) (β ++ [r]) w' b) →
      o.R w' (C.N (s.heap ++ [(true, o)]) (β ++ [r]) w') (C.fresh (s.heap ++ [(true, o)]) (β ++ [r]) w') (β ++ [r]) r) :
    Rel C { s with heap := s.heap ++ [(true, o)] } (β ++ [r]) a w' ∧
      (∀ (x : AV) (v : Value), x.R w (C.N s.heap β w) (C.fresh s.heap β w) β v → x.R w' (C.N (s.heap ++ [(true, o)]) (β ++ [r]) w') (C.fresh (s.heap ++ [(true, o)]) (β ++ [r]) w') (β ++ [r]) v) := by
  have new : ∀ (l : Nat) (o1 : Bool × AObj) (r1 : Bl), (s.heap ++ [(true, o)])[l]? = some o1 → (β ++ [r])[l]? = some r1 → s.heap.length ≤ l → l = s.heap.length ∧ o1 = (true, o) ∧ r1 = r := by
    intro l o1 r1 h1 h2 h3
    have hl : l = s.heap.length := by have := (List.getElem?_eq_some_iff.1 h1).1; simp at this; omega
    subst hl
    refine ⟨rfl, by simpa using h1.symm, ?_⟩
    rw [← R.bsize] at h2; simpa using h2.symm
  refine R.gen (hdr := g.drawn) (s.heap ++ [(true, o)]) [r] w' (fun _ => False) g.os g.tape g.output g.size (by simp) (fun l o h _ => ⟨o, get_app h, rfl⟩) (fun l _ h => get_app h) (fun b hb _ => g.block b hb)
    ?_ ?_ ?_
  · intro l o1 r1 b h1 h2 h3 hx
    obtain ⟨_, rfl, rfl⟩ := new l o1 r1 h1 h2 (h3.resolve_left id)
    obtain ⟨h4, h5⟩ := hocc b hx
    exact ⟨h5, .inl h4⟩
  · intro l l' o1 o1' r1 r1' b h1 h2 h1' h2' h3 h3' _ _
    have := (new l o1 r1 h1 h2 (h3.resolve_left id)).1
    have := (new l' o1' r1' h1' h2' (h3'.resolve_left id)).1
    omega
  · intro l o1 r1 h1 h2 h3 k1 k2 k3 _
    obtain ⟨_, rfl, rfl⟩ := new l o1 r1 h1 h2 (h3.resolve_left id)
    exact hR k1 k2 k3

theorem Rel.upd {C : Cx} {s : AS} {β : List Bl} {a : Act} {w w' : World} (R : Rel C s β a w) (l : Nat) (o : Bool × AObj) (o' : AObj) (r : Bl) (ho : s.heap[l]? = some o) (hr : β[l]? = some r)
    (hos : w'.os = w.os) (htape : w'.tape = w.tape) (hout : w'.output = w.output) (hsz : w.heap.size ≤ w'.heap.size)
    (hblk : ∀ b, b < w.heap.size → b ∉ o.2.occ r → w'.heap[b]? = w.heap[b]?) (hm : o.2 ≠ .mark)
    (hocc : ∀ b, b ∈ o'.occ r → b ∈ o.2.occ r)
    (hR : (∀ (x : AV) (v : Value), x.R w (C.N s.heap β w) (C.fresh s.heap β w) β v → x.R w' (C.N (s.heap.set l (true, o')) β w') (C.fresh (s.heap.set l (true, o')) β w') β v) →
      (∀ b, C.N s.heap β w b → C.N (s.heap.set l (true, o')) β w' b) → (∀ b, C.fresh s.heap β w b → C.fresh (s.heap.set l (true, o')) β w' b) → (∀ b, C.N s.heap β w b → w'.heap[b]? = w.heap[b]?) →
      o'.R w' (C.N (s.heap.set l (true, o')) β w') (C.fresh (s.heap.set l (true, o')) β w') β r) (hdr : w.drawn ≤ w'.drawn := by exact Nat.le_refl _) :
    Rel C { s with heap := s.heap.set l (true, o') } β a w' ∧
      (∀ (x : AV) (v : Value), x.R w (C.N s.heap β w) (C.fresh s.heap β w) β v → x.R w' (C.N (s.heap.set l (true, o')) β w') (C.fresh (s.heap.set l (true, o')) β w') β v) := by
  have hll : l < s.heap.length := (List.getElem?_eq_some_iff.1 ho).1
  have only : ∀ (l1 : Nat) (o1 : Bool × AObj), (s.heap.set l (true, o'))[l1]? = some o1 → (l1 = l ∨ s.heap.length ≤ l1) → l1 = l ∧ o1 = (true, o') := by
    intro l1 o1 h1 h2
    have : l1 = l := by
      rcases h2 with h2 | h2
      · exact h2
      · have := (List.getElem?_eq_some_iff.1 h1).1; simp at this; omega
    subst this
    refine ⟨rfl, ?_⟩
    simp [hll] at h1; exact h1.symm
  have := R.gen (hdr := hdr) (s.heap.set l (true, o')) [] w' (fun x => x = l) hos htape hout hsz (by simp)
    (fun l1 o1 h1 hn => ⟨o1, by rw [List.getElem?_set_ne (Ne.symm hn)]; exact h1, rfl⟩)
    (fun l1 _ h1 => by
      by_cases e : l1 = l
      · subst e; rw [ho] at h1; cases h1; exact absurd rfl hm
      · rw [List.getElem?_set_ne (Ne.symm e)]; exact h1)
    (fun b hb h => hblk b hb (h l o r ho hr rfl))
    (fun l1 o1 r1 b h1 h2 h3 hx => by
      obtain ⟨rfl, rfl⟩ := only l1 o1 h1 h3
      simp only [List.append_nil] at h2
      rw [hr] at h2; cases h2
      have h4 := hocc b hx
      exact ⟨by have := (R.occ _ o _ b ho hr h4).1; omega, .inr ⟨_, o, r, ho, hr, rfl, h4⟩⟩)
    (fun l1 l2 o1 o2 r1 r2 b h1 h2 h1' h2' h3 h3' _ _ => by
      have := (only l1 o1 h1 h3).1
      have := (only l2 o2 h1' h3').1
      omega)
    (fun l1 o1 r1 h1 h2 h3 k1 k2 k3 k4 => by
      obtain ⟨rfl, rfl⟩ := only l1 o1 h1 h3
      simp only [List.append_nil] at *
      rw [hr] at h2; cases h2
      exact hR k1 k2 k3 k4)
  simpa using this
end Go.Proofs.AM
end

section
namespace Go.Proofs.AM
open Go Go.RowKit

abbrev Heap := List (Bool × AObj)

def hat (h : Heap) (l : Nat) : AObj := match h[l]? with
  | some o => o.2
  | none => .dead

def hpool (h : Heap) (nm : Nat) : Option Nat := match hat h nm with
  | .dvec _ _ _ _ _ _ => some nm
  | .hnd p => match hat h p with
    | .dvec _ _ _ _ _ _ => some p
    | _ => none
  | _ => none

def ith {A : Type} {ki : K} (xs : List (A × List ki.den)) (i : Nat) : List ki.den := match xs[i]? with
  | some x => x.2
  | none => []

def hth {kh ki : K} (xs : List (kh.den × List ki.den)) (i : Nat) : kh.den := match xs[i]? with
  | some x => x.1
  | none => kh.dflt

def AV.bor (h : Heap) : AV → AV
  | .vf l => match hat h l with
    | .vec _ k xs fr => .dat (.sl k) xs fr
    | _ => .junk
  | .vw l off len => match hat h l with
    | .vec _ k xs fr => .dat (.sl k) ((xs.drop off).take len) fr
    | _ => .junk
  | .dv _ p i => match hat h p with
    | .dvec _ _ _ ki xs _ => .dat (.sl ki) (ith xs i) true
    | _ => .junk
  | a => a

def AV.borD (h : Heap) (a : AV) : AV := match a with
  | .hv nm _ _ => match hpool h nm with
    | some p => match hat h p with
      | .dvec _ _ kh ki xs none => .dat (.sl (.pair kh (.sl ki))) xs true
      | _ => .junk
    | none => .junk
  | .hw nm off len _ => match hpool h nm with
    | some p => match hat h p with
      | .dvec _ _ kh ki xs none => .dat (.sl (.pair kh (.sl ki))) ((xs.drop off).take len) true
      | _ => .junk
    | none => .junk
  | a => a.bor h

def AV.toD (k : K) : AV → Option (k.den × Bool)
  | .dat k' x fr => if e : k' = k then some (e ▸ x, fr || k.flat) else none
  | .nilsl => match k with
    | .sl _ => some ([], true)
    | _ => none
  | _ => none

def K.ofs (h : Heap) (B : Bool) : (k : K) → List AV → Option (k.den × Bool × List AV)
  | .pair a b, l => match K.ofs h B a l with
    | some (x, f, l1) => match K.ofs h B b l1 with
      | some (y, g, l2) => some ((x, y), f && g, l2)
      | none => none
    | none => none
  | .unit, l => some ((), true, l)
  | .ar _ _, _ => none
  | .rp k, a :: l => match a with
    | .ro k' x off fr => if e : k' = k then (if off = 0 then some (e ▸ x, fr, l) else none) else none
    | .dat k' x fr => if e : k' = .rp k then some (e ▸ x, fr, l) else none
    | .ptr m off => match B, hat h m with
      | true, .box _ cs => match K.ofs h B k (cs.drop off) with
        | some (x, f, _) => some (x, f, l)
        | none => none
      | _, _ => none
    | _ => none
  | k, a :: l => match AV.toD k (if B then a.borD h else a) with
    | some (x, f) => some (x, f, l)
    | none => none
  | _, [] => none

def K.of (h : Heap) (B : Bool) (k : K) (l : List AV) : Option (k.den × Bool) :=
  match K.ofs h B k l with
  | some (x, f, []) => some (x, f)
  | _ => none

def AV.isOne : AV → Bool
  | .junk => false
  | _ => true

def kindFields (f : TypeId → Option K) : List Field → Option K
  | [] => some .unit
  | [x] => f x.type
  | x :: y :: r => match f x.type, kindFields f (y :: r) with
    | some a, some b => some (.pair a b)
    | _, _ => none

def kindOf (P : Program) : Nat → TypeId → Option K
  | 0, _ => none
  | n + 1, t => match P.underlying t with
    | some (.int k) => some (.int k)
    | some .bool => some .bool
    | some .string => some .str
    | some (.slice e) => match kindOf P n e with
      | some k => some (.sl k)
      | none => none
    | some (.array m e) => match kindOf P n e with
      | some k => some (.ar m k)
      | none => none
    | some (.struct fs) => match fs.toList with
      | [x] => match kindOf P n x.type with
        | some k => some (.pair k .unit)
        | none => none
      | l => kindFields (kindOf P n) l
    | _ => none

def K.wide : K → Bool
  | .ar _ _ => true
  | .pair a b => a.wide || b.wide
  | _ => false

def K.sub (t : K) : (k : K) → k.den → Nat → Option t.den
  | .pair a b, x, off => if h : off = 0 ∧ K.pair a b = t then some (h.2 ▸ x) else if off < a.size then K.sub t a x.1 off else K.sub t b x.2 (off - a.size)
  | k, x, off => if h : off = 0 ∧ k = t then some (h.2 ▸ x) else none

def constAV : Value → AV
  | .int k n => .dat (.int k) n true
  | .bool b => .dat .bool b true
  | .string s => .dat .str s true
  | .slice none 0 0 => .nilsl
  | .nilFunc => .nilf
  | .pointer none => .nilp
  | .nilIface => .nili
  | _ => .junk

def constTV : Value → TV
  | .agg cs => .agg (cs.toList.map constAV)
  | v => .one (constAV v)

def AS.ev (s : AS) : Operand → TV
  | .tmp t => (s.tmps[t]?).getD (.one .junk)
  | .const v => constTV v
  | .func f => .one (.fn f [])
  | .global _ => .one .junk

def TV.cells : TV → List AV
  | .one a => [a]
  | .agg cs => cs
  | .tup _ => []
  | .dat k x fr => K.cells fr k x

def isAggT (P : Program) (t : TypeId) : Bool := match P.underlying t with
  | some (.struct _) | some (.array _ _) => true
  | _ => false

def shapeTV (agg : Bool) (cs : List AV) : Option TV :=
  match agg, cs with
  | true, cs => some (.agg cs)
  | false, [a] => some (.one a)
  | _, _ => none

section
variable {R : Type}

def gd (c : Prop) [Decidable c] (x : Option R) : Option R := if c then x else none

def cut (P : Program) (t : TypeId) (cs : List AV) (off : Nat) (k : TV → Option R) : Option R :=
  match P.underlying t, P.info? t with
  | some _, some i =>
    let c := (cs.drop off).take i.size
    if c.length = i.size then
      match shapeTV (isAggT P t) c with
      | some tv => k tv
      | none => none
    else none
  | _, _ => none

def asub (P : Program) (t : TypeId) (q : K) (x : q.den) (off : Nat) (fr : Bool) (k : TV → Option R) : Option R :=
  match P.underlying t, P.info? t, kindOf P 30 t with
  | some _, some i, some kt => if i.size = kt.size then match K.sub kt q x off with
    | some y => match kt.wide, isAggT P t with
      | true, true => k (.dat kt y fr)
      | true, false => none
      | false, g => match shapeTV g (K.cells fr kt y) with
        | some tv => k tv
        | none => none
    | none => none
    else none
  | _, _, _ => none

def aloadD (P : Program) (t : TypeId) (q : K) (x : q.den) (off : Nat) (fr : Bool) (k : TV → Option R) : Option R :=
  if q.wide = true then asub P t q x off fr k else cut P t (K.cells fr q x) off k

def aarr (P : Program) (t : TypeId) : Option (Nat × TypeId) := match P.underlying t with
  | some (.array n e) => some (n, e)
  | _ => none

def aload (P : Program) (h : Heap) (t : TypeId) (a : AV) (k : TV → Option R) : Option R :=
  match a with
  | .ptr l off => match hat h l with
    | .box _ cs => cut P t cs off k
    | .dbox _ q x fr => aloadD P t q x off fr k
    | _ => none
  | .ro q x off fr => aloadD P t q x off fr k
  | .dat (.rp q) x fr => aloadD P t q x 0 fr k
  | .vp l i off => match hat h l with
    | .vec _ q xs fr => gd (i < xs.length) (aloadD P t q (xs.getD i q.dflt) off fr k)
    | .hvec _ _ _ _ j m => gd (i = j) (cut P t [.vf m] off k)
    | _ => match hpool h l with
      | some p => match hat h p with
        | .dvec _ _ kh _ xs none => gd (i < xs.length) (cut P t (K.cells true kh (hth xs i) ++ [.dv l p i]) off k)
        | _ => none
      | none => none
  | .dp p i j off => match hat h p with
    | .dvec _ _ _ ki xs _ => gd (j < (ith xs i).length) (cut P t (K.cells true ki ((ith xs i).getD j ki.dflt)) off k)
    | _ => none
  | _ => none

def ishl (k : IntKind) (x y : Int) : Int := k.wrap (x * 2 ^ (min y.toNat k.bits))
def ishr (k : IntKind) (x y : Int) : Int := x.fdiv (2 ^ (min y.toNat k.bits))
def iand (k : IntKind) (x y : Int) : Int := k.wrap (BitVec.ofInt k.bits x &&& BitVec.ofInt k.bits y).toNat
def ior (k : IntKind) (x y : Int) : Int := k.wrap (BitVec.ofInt k.bits x ||| BitVec.ofInt k.bits y).toNat
def ixor (k : IntKind) (x y : Int) : Int := k.wrap (BitVec.ofInt k.bits x ^^^ BitVec.ofInt k.bits y).toNat
def iandn (k : IntKind) (x y : Int) : Int := k.wrap (BitVec.ofInt k.bits x &&& ~~~ BitVec.ofInt k.bits y).toNat

def abin (op : BinOp) (kx : IntKind) (x : Int) (ky : IntKind) (y : Int) (k : TV → Option R) : Option R :=
  let int (n : Int) := k (.one (.dat (.int kx) n true))
  let bool (b : Bool) := k (.one (.dat .bool b true))
  match op with
  | .shl => gd (0 ≤ y) (int (ishl kx x y))
  | .shr => gd (0 ≤ y) (int (ishr kx x y))
  | _ => if kx = ky then match op with
    | .add => int (kx.wrap (x + y))
    | .sub => int (kx.wrap (x - y))
    | .mul => int (kx.wrap (x * y))
    | .quo => if y = 0 then none else int (kx.wrap (x.tdiv y))
    | .rem => if y = 0 then none else int (x.tmod y)
    | .and => int (iand kx x y)
    | .or => int (ior kx x y)
    | .xor => int (ixor kx x y)
    | .andNot => int (iandn kx x y)
    | .eql => bool (x == y)
    | .neq => bool (x != y)
    | .lss => bool (decide (x < y))
    | .leq => bool (decide (x ≤ y))
    | .gtr => bool (decide (x > y))
    | .geq => bool (decide (x ≥ y))
    | _ => none
    else none

def alen (h : Heap) : AV → Option Int
  | .dat (.sl _) xs _ => some (List.length xs : Int)
  | .nilsl => some 0
  | .vf l => match hat h l with
    | .vec _ _ xs _ => some (xs.length : Int)
    | _ => none
  | .vw _ _ len => some (len : Int)
  | .hv _ n _ | .hw _ _ n _ => some (n : Int)
  | .dv _ p i => match hat h p with
    | .dvec _ _ _ _ xs _ => some ((ith xs i).length : Int)
    | _ => none
  | _ => none

def afields (P : Program) (t : TypeId) (i : Nat) : Option Field := match P.underlying t with
  | some (.struct fs) => fs[i]?
  | _ => none

def aelem (P : Program) (t : TypeId) : Option TypeId := match P.underlying t with
  | some (.slice e) => some e
  | _ => none

def afieldAddr (P : Program) (f : Field) (a : AV) (k : TV → Option R) : Option R :=
  if P.cellsOf f.type = 0 then none else
  match a with
  | .ptr l off => k (.one (.ptr l (off + f.offset)))
  | .ro q x off fr => k (.one (.ro q x (off + f.offset) fr))
  | .dat (.rp q) x fr => k (.one (.ro q x f.offset fr))
  | .vp l i off => k (.one (.vp l i (off + f.offset)))
  | .dp p i j off => k (.one (.dp p i j (off + f.offset)))
  | _ => none

def szOk (P : Program) (e : TypeId) (n : Nat) (x : Option R) : Option R := match P.info? e with
  | some i => if i.size = n then x else none
  | none => none

def aindexAddr (P : Program) (h : Heap) (e : TypeId) (a : AV) (i : Int) (k : TV → Option R) : Option R :=
  match a with
  | .dat (.sl q) xs fr => szOk P e q.size (gd (0 ≤ i) (gd (i < (List.length xs : Int)) (k (.one (.ro q (List.getD xs i.toNat q.dflt) 0 fr)))))
  | .vf l => match hat h l with
    | .vec _ q xs _ => szOk P e q.size (gd (0 ≤ i) (gd (i < (xs.length : Int)) (k (.one (.vp l i.toNat 0)))))
    | .hvec _ _ xs _ _ _ => szOk P e 1 (gd (0 ≤ i) (gd (i < (xs.length : Int)) (k (.one (.vp l i.toNat 0)))))
    | _ => none
  | .vw l off len => match hat h l with
    | .vec _ q _ _ => szOk P e q.size (gd (0 ≤ i) (gd (i < (len : Int)) (k (.one (.vp l (off + i.toNat) 0)))))
    | _ => none
  | .hv nm n sz => szOk P e sz (gd (0 ≤ i) (gd (i < (n : Int)) (k (.one (.vp nm i.toNat 0)))))
  | .hw nm off n sz => szOk P e sz (gd (0 ≤ i) (gd (i < (n : Int)) (k (.one (.vp nm (off + i.toNat) 0)))))
  | .dv _ p m => match hat h p with
    | .dvec _ _ _ ki xs _ => szOk P e ki.size (gd (0 ≤ i) (gd (i < ((ith xs m).length : Int)) (k (.one (.dp p m i.toNat 0)))))
    | _ => none
  | _ => none

def asz (h : Heap) : AV → Option Nat
  | .dat (.sl q) _ _ => some q.size
  | .vf l | .vw l _ _ => match hat h l with
    | .vec _ q _ _ => some q.size
    | _ => none
  | .hv _ _ sz | .hw _ _ _ sz => some sz
  | _ => none

def abound (s : AS) (d : Int) : Option Operand → Option Int
  | none => some d
  | some x => match s.ev x with
    | .one (.dat (.int _) n _) => some n
    | _ => none

def aslice (h : Heap) (a : AV) (lo hi n : Int) (k : TV → Option R) : Option R :=
  gd (0 ≤ lo) (gd (lo ≤ hi) (gd (hi ≤ n) (match a with
  | .dat (.sl q) xs fr => k (.one (.dat (.sl q) (List.take (hi.toNat - lo.toNat) (List.drop lo.toNat xs)) fr))
  | .vf l => k (.one (.vw l lo.toNat (hi.toNat - lo.toNat)))
  | .vw l off _ => k (.one (.vw l (off + lo.toNat) (hi.toNat - lo.toNat)))
  | .hv l _ sz => k (.one (.hw l lo.toNat (hi.toNat - lo.toNat) sz))
  | .hw l off _ sz => k (.one (.hw l (off + lo.toNat) (hi.toNat - lo.toNat) sz))
  | _ => none)))

def asliceA (P : Program) (s : AS) (t : TypeId) (q : K) (x : q.den) (off : Nat) (fr : Bool) (lo hi : Option Operand) (k : TV → Option R) : Option R := match aarr P t with
  | some (n, e) => match P.info? e, kindOf P 30 e with
    | some i, some ke => if i.size = ke.size then match K.sub (.ar n ke) q x off, abound s 0 lo, abound s (n : Int) hi with
      | some xs, some l, some h => gd (0 ≤ l) (gd (l ≤ h) (gd (h ≤ (n : Int)) (k (.one (.dat (.sl ke) (List.take (h.toNat - l.toNat) (List.drop l.toNat (show List ke.den from xs))) fr)))))
      | _, _, _ => none
      else none
    | _, _ => none
  | none => none

def aslice3 (P : Program) (h : Heap) (e : TypeId) (l : Nat) (hi mx : Int) (k : TV → Option R) : Option R := match alen h (.vf l) with
  | some n => gd (0 ≤ hi) (gd (hi ≤ mx) (gd (mx ≤ n) (match P.info? e with
    | some _ => k (.one (.vw l 0 hi.toNat))
    | none => none)))
  | none => none

def splice (cs : List AV) (off : Nat) (new : List AV) : List AV := cs.take off ++ new ++ cs.drop (off + new.length)

def TV.solid : TV → Bool
  | .one a => a.isOne
  | .agg _ => true
  | .tup _ => false
  | .dat _ _ _ => true

def afill (place : Nat → Option (Nat × Nat)) (cells : List AV) : List (Nat × TV) → Option (List AV)
  | [] => some cells
  | (i, v) :: rest => match place i with
    | none => none
    | some (off, size) =>
      if v.solid = true ∧ v.cells.length = size ∧ off + size ≤ cells.length then afill place (splice cells off v.cells) rest else none

def azero (P : Program) (t : TypeId) : Option (List AV) := match P.info? t with
  | some i => match i.zero with
    | some z => some (constTV z).cells
    | none => none
  | none => none

def placesOf (P : Program) (t : TypeId) : Option (List (Nat × Nat)) := match P.underlying t with
  | some (.struct fs) => fs.toList.mapM fun f => (P.info? f.type).map fun i => (f.offset, i.size)
  | _ => none

def capsOf : List TV → Option (List Nat)
  | [] => some []
  | .one (.ptr l 0) :: r => match capsOf r with
    | some ls => some (l :: ls)
    | none => none
  | _ => none

def intsOf : List TV → Option (List (IntKind × Int))
  | [] => some []
  | .one (.dat (.int k) n _) :: r => match intsOf r with
    | some ls => some ((k, n) :: ls)
    | none => none
  | _ => none

def K.beq : (k : K) → k.den → k.den → Bool
  | .int _, x, y => x == y
  | .bool, x, y => x == y
  | .str, x, y => x == y
  | .unit, _, _ => true
  | .pair a b, x, y => K.beq a x.1 y.1 && K.beq b x.2 y.2
  | _, _, _ => false

def mhas (k : Bool × K) {V : Type} (es : List (k.2.den × V)) (x : k.2.den) : Bool := match es with
  | [] => false
  | p :: r => k.2.beq x p.1 || mhas k r x

def mget (k : Bool × K) {V : Type} (es : List (k.2.den × V)) (x : k.2.den) (z : V) : V := match es with
  | [] => z
  | p :: r => cond (k.2.beq x p.1) p.2 (mget k r x z)

def mset (k : Bool × K) {V : Type} (es : List (k.2.den × V)) (x : k.2.den) (y : V) : List (k.2.den × V) := match es with
  | [] => [(x, y)]
  | p :: r => cond (k.2.beq x p.1) ((x, y) :: r) (p :: mset k r x y)

def mdel (k : Bool × K) {V : Type} (es : List (k.2.den × V)) (x : k.2.den) : List (k.2.den × V) := match es with
  | [] => []
  | p :: r => cond (k.2.beq x p.1) r (p :: mdel k r x)

def keyOkS (P : Program) (t : TypeId) (k : Bool × K) : Bool := match P.underlying t, k with
  | some (.int q), (false, .int q') => q == q'
  | some .bool, (false, .bool) => true
  | some .string, (false, .str) => true
  | _, _ => false

def keyFs (P : Program) (f : TypeId → K → Bool) : List Field → Nat → K → Bool
  | [], _, _ => false
  | [g], off, k => g.name != "_" && g.offset == off && ((P.info? g.type).map (·.size) == some k.size && f g.type k)
  | g :: h :: r, off, .pair a b => g.name != "_" && g.offset == off && ((P.info? g.type).map (·.size) == some a.size && f g.type a) && keyFs P f (h :: r) (off + a.size) b
  | _, _, _ => false

def keyEq (P : Program) : Nat → TypeId → K → Bool
  | 0, _, _ => false
  | n + 1, t, k => match P.underlying t with
    | some (.int q) => (match k with
      | .int q' => q == q'
      | _ => false)
    | some .bool => (match k with
      | .bool => true
      | _ => false)
    | some (.struct fs) => !P.stoodInHeld t && keyFs P (keyEq P n) fs.toList 0 k
    | _ => false

def keyOkW (P : Program) (t : TypeId) (k : Bool × K) : Bool := match P.underlying t, k with
  | some (.struct _), (true, q) => keyEq P 8 t q
  | _, _ => false

def keyOk (P : Program) (t : TypeId) (k : Bool × K) : Bool := keyOkS P t k || keyOkW P t k

def decT (h : Heap) (k : Bool × K) : TV → Option (k.2.den × Bool)
  | .agg cs => match k.1 with
    | true => K.of h false k.2 cs
    | false => none
  | .one a => match k.1 with
    | true => none
    | false => K.of h false k.2 [a]
  | .tup _ => none
  | .dat q x fr => match k.1 with
    | true => if e : q = k.2 then some (e ▸ x, fr) else none
    | false => none

def zeroD (P : Program) (h : Heap) (t : TypeId) (k : Bool × K) : Option k.2.den := match P.info? t with
  | some i => match i.zero with
    | some zv => match decT h k (constTV zv) with
      | some (zd, true) => some zd
      | _ => none
    | none => none
  | none => none

def alookup (P : Program) (h : Heap) (t : TypeId) (x i : TV) (ok : Bool) (k : TV → Option R) : Option R :=
  match P.underlying t, x with
  | some (.map kt vt), .one (.mp l) => match hat h l with
    | .map ki vi es fr => if keyOk P kt ki = true then match decT h ki i, zeroD P h vt vi with
      | some (xk, _), some z => match ok with
        | true => k (.tup [(vi.1, vi.2.cells fr (mget ki es xk z)), (false, [.dat .bool (mhas ki es xk) true])])
        | false => match shapeTV vi.1 (vi.2.cells fr (mget ki es xk z)) with
          | some tv => k tv
          | none => none
      | _, _ => none
      else none
    | _ => none
  | _, _ => none

def streq (a b : ByteArray) : Bool := a == b

def anilEq (P : Program) (t : TypeId) (u v : AV) : Option Bool := match P.underlying t with
  | some (.pointer _) => match u, v with
    | .nilp, .nilp => some true
    | .ptr _ _, .nilp => some false
    | .ro _ _ _ _, .nilp => some false
    | .vp _ _ _, .nilp => some false
    | .dat (.rp _) _ _, .nilp => some false
    | _, _ => none
  | some (.func _ _ _) => match u, v with
    | .nilf, .nilf => some true
    | .fn _ _, .nilf => some false
    | _, _ => none
  | some (.interface _) => match u, v with
    | .ifc _ _, .nili => some false
    | _, _ => none
  | some .bool => match u, v with
    | .dat .bool a _, .dat .bool b _ => some (cond a b (!b))
    | _, _ => none
  | some .string => match u, v with
    | .dat .str a _, .dat .str b _ => some (streq a b)
    | _, _ => none
  | _ => none

def anilEqO (P : Program) (t : TypeId) (u v : AV) (y : Operand) : Option Bool := match u, v, y with
  | .nili, .nili, .const .nilIface => match P.underlying t with
    | some (.interface _) => some true
    | _ => none
  | u, v, _ => anilEq P t u v

def abuiltin (P : Program) (s : AS) (c : Call) (k : TV → Option R) : Option R :=
  match c.callee with
  | .builtin .len => match c.args.toList, c.argTypes.toList with
    | [x], [t] => match aelem P t, s.ev x with
      | some _, .one a => match alen s.heap a with
        | some n => k (.one (.dat (.int .i64) n true))
        | none => none
      | none, .one (.mp l) => match P.underlying t, hat s.heap l with
        | some (.map _ _), .map _ _ es _ => k (.one (.dat (.int .i64) (es.length : Int) true))
        | _, _ => none
      | _, _ => none
    | _, _ => none
  | .builtin .max => match intsOf (c.args.toList.map s.ev) with
    | some ((q, n) :: r) => k (.one (.dat (.int q) (r.foldl (fun x y => if y.2 > x then y.2 else x) n) true))
    | _ => none
  | .builtin .min => match intsOf (c.args.toList.map s.ev) with
    | some ((q, n) :: r) => k (.one (.dat (.int q) (r.foldl (fun x y => if y.2 < x then y.2 else x) n) true))
    | _ => none
  | _ => none

def aeqFields (P : Program) (f : TypeId → TV → TV → Option Bool) (xs ys : List AV) : List Field → Option Bool
  | [] => some true
  | g :: r => if g.name = "_" then none else match cut P g.type xs g.offset some, cut P g.type ys g.offset some with
    | some a, some b => match f g.type a b with
      | some p => match r with
        | [] => some p
        | _ => match aeqFields P f xs ys r with
          | some q => some (p && q)
          | none => none
      | none => none
    | _, _ => none

def aeq (P : Program) : Nat → TypeId → TV → TV → Option Bool
  | 0, _, _, _ => none
  | n + 1, t, x, y => match P.underlying t, x, y with
    | some .bool, .one (.dat .bool a _), .one (.dat .bool b _) => some (a == b)
    | some (.int _), .one (.dat (.int k) a _), .one (.dat (.int k') b _) => if k = k' then some (a == b) else none
    | some (.struct fs), .agg xs, .agg ys => if P.stoodInHeld t = true then none else aeqFields P (aeq P n) xs ys fs.toList
    | _, _, _ => none

def aval (P : Program) (s : AS) (o : Oper) (k : TV → Option R) : Option R :=
  match o.op with
  | .move x | .assign x => k (s.ev x)
  | .pick c a b => match s.ev c with
    | .one (.dat .bool t _) => match s.ev a, s.ev b with
      | .one (.dat .bool x _), .one (.dat .bool y _) => k (.one (.dat .bool (cond t x y) true))
      | x, y => cond t (k x) (k y)
    | _ => none
  | .load t x => match s.ev x with
    | .one a => aload P s.heap t a k
    | _ => none
  | .nilCheck x => match s.ev x with
    | .one (.ptr l off) => k (.one (.ptr l off))
    | .one (.fn f c) => k (.one (.fn f c))
    | .one (.ro q x off fr) => k (.one (.ro q x off fr))
    | .one (.dat (.rp q) x fr) => k (.one (.dat (.rp q) x fr))
    | _ => none
  | .binOp op t x y _ => match s.ev x, s.ev y with
    | .one (.dat (.int kx) m _), .one (.dat (.int ky) n _) => abin op kx m ky n k
    | .agg xs, .agg ys => if P.eqGuardType P.depth t = true then none else match op with
      | .eql => match aeq P 8 t (.agg xs) (.agg ys) with
        | some b => k (.one (.dat .bool b true))
        | none => none
      | .neq => match aeq P 8 t (.agg xs) (.agg ys) with
        | some b => k (.one (.dat .bool (!b) true))
        | none => none
      | _ => none
    | .one u, .one v => match anilEqO P t u v y with
      | some b => match op with
        | .eql => k (.one (.dat .bool b true))
        | .neq => k (.one (.dat .bool (!b) true))
        | _ => none
      | none => none
    | _, _ => none
  | .unOp op _ x => match op, s.ev x with
    | .not, .one (.dat .bool b _) => k (.one (.dat .bool (!b) true))
    | .neg, .one (.dat (.int q) n _) => k (.one (.dat (.int q) (q.wrap (0 - n)) true))
    | _, _ => none
  | .convert src dst x => match P.underlying src, P.underlying dst, s.ev x with
    | some _, some (.int kd), .one (.dat (.int _) n _) => k (.one (.dat (.int kd) (kd.wrap n) true))
    | some (.slice e), some .string, .one a => match P.underlying e with
      | some (.int .u8) => match AV.toD (.sl (.int .u8)) (a.bor s.heap) with
        | some (xs, _) => k (.one (.dat .str (strOfNums xs) true))
        | none => none
      | _ => none
    | _, _, _ => none
  | .makeFunc (.func f) first captured => match first.toList, capsOf (captured.toList.map s.ev) with
    | [], some ls => k (.one (.fn f ls))
    | _, _ => none
  | .extract x i => match s.ev x with
    | .tup cs => match cs[i]? with
      | some (agg, c) => match shapeTV agg c with
        | some tv => k tv
        | none => none
      | none => none
    | _ => none
  | .fieldAddr t x i => match afields P t i, s.ev x with
    | some f, .one a => afieldAddr P f a k
    | _, _ => none
  | .field t x i => match afields P t i, s.ev x with
    | some f, .agg cs => cut P f.type cs f.offset k
    | _, _ => none
  | .indexAddr t x i => match aelem P t, s.ev x, s.ev i with
    | some e, .one a, .one (.dat (.int _) n _) => aindexAddr P s.heap e a n k
    | _, _, _ => none
  | .slice t x lo hi none => match aelem P t, s.ev x with
    | some e, .one a => match alen s.heap a, asz s.heap a with
      | some n, some z => match abound s 0 lo, abound s n hi with
        | some l, some h => szOk P e z (aslice s.heap a l h n k)
        | _, _ => none
      | _, _ => none
    | none, .one (.ro q y off fr) => asliceA P s t q y off fr lo hi k
    | none, .one (.dat (.rp q) y fr) => asliceA P s t q y 0 fr lo hi k
    | _, _ => none
  | .slice t x none (some hi) (some mx) => match aelem P t, s.ev x, s.ev hi, s.ev mx with
    | some e, .one (.vf l), .one (.dat (.int _) h _), .one (.dat (.int _) m _) => aslice3 P s.heap e l h m k
    | _, _, _, _ => none
  | .build t parts => match azero P t, placesOf P t with
    | some z, some ps => match afill (ps.toArray[·]?) z (parts.toList.map fun (i, x) => (i, s.ev x)) with
      | some cs => k (.agg cs)
      | none => none
    | _, _ => none
  | .call c => abuiltin P s c k
  | .makeInterface t x => match P.underlying t, s.ev x with
    | some (.interface _), _ => none
    | some _, .one a => match a with
      | .junk => none
      | a => k (.one (.ifc t a))
    | _, _ => none
  | _ => none
end
end Go.Proofs.AM
end

section
namespace Go.Proofs.AM
open Go Go.RowKit

section
variable {w : World} {N Nf : Nat → Prop} {β : List Bl}

theorem range_flat {A B : Type} (F : A → List B) (xs : List A) (z : A) : List.flatMap (fun i => F (List.getD xs i z)) (List.range xs.length) = List.flatMap F xs := by
  have e : (List.range xs.length).map (fun i => xs.getD i z) = xs := by
    apply List.ext_getElem
    · simp
    · intro i h1 h2
      simp [h2]
  conv => rhs; rw [← e]
  rw [List.flatMap_map]

theorem K.cells_R (fr : Bool) : ∀ (k : K) (x : k.den) (cs : List Value), k.rd w (if fr then Nf else N) x cs → All2 (AV.R w N Nf β) (K.cells fr k x) cs
  | .pair a b, x, cs, h => by
    obtain ⟨c, d, rfl, h1, h2⟩ := h
    exact (K.cells_R fr a _ _ h1).app (K.cells_R fr b _ _ h2)
  | .unit, _, cs, h => by simp [K.rd] at h; subst h; trivial
  | .int k, x, cs, h => by simp [K.rd] at h; subst h; exact ⟨rfl, trivial⟩
  | .bool, x, cs, h => by simp [K.rd] at h; subst h; exact ⟨rfl, trivial⟩
  | .str, x, cs, h => by simp [K.rd] at h; subst h; exact ⟨rfl, trivial⟩
  | .sl k, x, cs, h => by
    have h' := h
    obtain ⟨A, c, rfl, _⟩ := h
    exact ⟨h', trivial⟩
  | .rp k, x, cs, h => by
    have h' := h
    obtain ⟨A, c, _, rfl, _⟩ := h
    exact ⟨h', trivial⟩
  | .ar n k, xs, cs, h => by
    have key : ∀ (xs : List k.den) (cs : List Value), rows (k.rd w (if fr then Nf else N)) xs cs → All2 (AV.R w N Nf β) (List.flatMap (K.cells fr k) xs) cs := by
      intro xs
      induction xs with
      | nil => intro cs h; have h : cs = [] := h; subst h; trivial
      | cons x xs ih =>
        rintro cs ⟨c, cs', rfl, h1, h2⟩
        rw [List.flatMap_cons]
        exact (K.cells_R fr k _ _ h1).app (ih _ h2)
    have hl : List.length (show List k.den from xs) = n := h.1
    have hf := range_flat (K.cells fr k) (show List k.den from xs) k.dflt
    rw [hl] at hf
    show All2 _ (List.flatMap (fun i => K.cells fr k (List.getD (show List k.den from xs) i k.dflt)) (List.range n)) cs
    rw [hf]
    exact key xs cs h.2

theorem K.rd_okl : ∀ (k : K) (x : k.den) (cs : List Value), k.rd w N x cs → k.okl x
  | .pair a b, x, cs, h => by
    obtain ⟨c, d, rfl, h1, h2⟩ := h
    exact ⟨K.rd_okl a _ _ h1, K.rd_okl b _ _ h2⟩
  | .ar n k, xs, cs, h => by
    refine ⟨h.1, ?_⟩
    have key : ∀ (xs : List k.den) (cs : List Value), rows (k.rd w N) xs cs → ∀ x ∈ xs, k.okl x := by
      intro xs
      induction xs with
      | nil => intro cs h x hx; simp at hx
      | cons y xs ih =>
        rintro cs ⟨c, cs', rfl, h1, h2⟩ x hx
        rcases List.mem_cons.1 hx with rfl | hx
        · exact K.rd_okl k _ _ h1
        · exact ih _ h2 x hx
    exact key xs cs h.2
  | .unit, _, _, _ => trivial
  | .int _, _, _, _ => trivial
  | .bool, _, _, _ => trivial
  | .str, _, _, _ => trivial
  | .sl _, _, _, _ => trivial
  | .rp _, _, _, _ => trivial

theorem K.cells_rd (fr : Bool) : ∀ (k : K) (x : k.den) (cs : List Value), k.okl x → All2 (AV.R w N Nf β) (K.cells fr k x) cs → k.rd w (if fr then Nf else N) x cs
  | .pair a b, x, cs, ho, h => by
    obtain ⟨m1, m2, rfl, h1, h2⟩ := All2.of_app h
    exact ⟨m1, m2, rfl, K.cells_rd fr a _ _ ho.1 h1, K.cells_rd fr b _ _ ho.2 h2⟩
  | .unit, _, [], _, _ => rfl
  | .unit, _, _ :: _, _, h => h.elim
  | .int k, x, [v], _, h => h.1
  | .bool, x, [v], _, h => h.1
  | .str, x, [v], _, h => h.1
  | .sl k, x, [v], _, h => h.1
  | .rp k, x, [v], _, h => h.1
  | .int _, _, [], _, h => h.elim
  | .bool, _, [], _, h => h.elim
  | .str, _, [], _, h => h.elim
  | .sl _, _, [], _, h => h.elim
  | .rp _, _, [], _, h => h.elim
  | .int _, _, _ :: _ :: _, _, h => h.2.elim
  | .bool, _, _ :: _ :: _, _, h => h.2.elim
  | .str, _, _ :: _ :: _, _, h => h.2.elim
  | .sl _, _, _ :: _ :: _, _, h => h.2.elim
  | .rp _, _, _ :: _ :: _, _, h => h.2.elim
  | .ar n k, xs, cs, ho, h => by
    refine ⟨ho.1, ?_⟩
    have key : ∀ (xs : List k.den) (cs : List Value), (∀ x ∈ xs, k.okl x) → All2 (AV.R w N Nf β) (List.flatMap (K.cells fr k) xs) cs → rows (k.rd w (if fr then Nf else N)) xs cs := by
      intro xs
      induction xs with
      | nil =>
        intro cs _ h
        match cs, h with
        | [], _ => rfl
      | cons x xs ih =>
        intro cs ho h
        rw [List.flatMap_cons] at h
        obtain ⟨m1, m2, rfl, h1, h2⟩ := All2.of_app h
        exact ⟨m1, m2, rfl, K.cells_rd fr k _ _ (ho x (by simp)) h1, ih _ (fun y hy => ho y (by simp [hy])) h2⟩
    have hl : List.length (show List k.den from xs) = n := ho.1
    have hf := range_flat (K.cells fr k) (show List k.den from xs) k.dflt
    rw [hl] at hf
    have h : All2 (AV.R w N Nf β) (List.flatMap (fun i => K.cells fr k (List.getD (show List k.den from xs) i k.dflt)) (List.range n)) cs := h
    rw [hf] at h
    exact key xs cs ho.2 h

theorem TV.dat_R {k : K} {x : k.den} {fr : Bool} {v : Value} : (TV.dat k x fr).R w N Nf β v ↔ ∃ vs : List Value, v = .agg vs.toArray ∧ k.rd w (if fr then Nf else N) x vs := by
  constructor
  · rintro ⟨ho, vs, e, h⟩
    exact ⟨vs, e, K.cells_rd fr k x vs ho h⟩
  · rintro ⟨vs, e, h⟩
    exact ⟨K.rd_okl k x vs h, vs, e, K.cells_R fr k x vs h⟩

theorem K.sub_rd {t : K} : ∀ (k : K) (x : k.den) (off : Nat) (y : t.den) (cs : List Value), K.sub t k x off = some y → k.rd w N x cs → t.rd w N y ((cs.drop off).take t.size)
  | .pair a b, x, off, y, cs, e, h => by
    have hlen := K.rd_len w N (.pair a b) x cs h
    unfold K.sub at e
    split at e
    · rename_i hc
      obtain ⟨rfl, rfl⟩ := hc
      simp only [Option.some.injEq] at e
      subst e
      rw [List.drop_zero, ← hlen, List.take_length]
      exact h
    · obtain ⟨c, d, rfl, h1, h2⟩ := h
      have l1 := K.rd_len w N a x.1 c h1
      split at e
      · have := K.sub_rd a x.1 off y c e h1
        have l2 := K.rd_len w N t y _ this
        rw [List.length_take, List.length_drop] at l2
        rw [List.drop_append_of_le_length (by omega), List.take_append_of_le_length (by simp; omega)]
        exact this
      · have := K.sub_rd b x.2 (off - a.size) y d e h2
        rw [List.drop_append, List.drop_eq_nil_of_le (by omega), List.nil_append, l1]
        exact this
  | .unit, x, off, y, cs, e, h => by simp only [K.sub] at e; split at e <;> simp at e; rename_i hc; obtain ⟨rfl, rfl⟩ := hc; subst e; rw [List.drop_zero, ← K.rd_len w N _ _ _ h, List.take_length]; exact h
  | .int _, x, off, y, cs, e, h => by simp only [K.sub] at e; split at e <;> simp at e; rename_i hc; obtain ⟨rfl, rfl⟩ := hc; subst e; rw [List.drop_zero, ← K.rd_len w N _ _ _ h, List.take_length]; exact h
  | .bool, x, off, y, cs, e, h => by simp only [K.sub] at e; split at e <;> simp at e; rename_i hc; obtain ⟨rfl, rfl⟩ := hc; subst e; rw [List.drop_zero, ← K.rd_len w N _ _ _ h, List.take_length]; exact h
  | .str, x, off, y, cs, e, h => by simp only [K.sub] at e; split at e <;> simp at e; rename_i hc; obtain ⟨rfl, rfl⟩ := hc; subst e; rw [List.drop_zero, ← K.rd_len w N _ _ _ h, List.take_length]; exact h
  | .sl _, x, off, y, cs, e, h => by simp only [K.sub] at e; split at e <;> simp at e; rename_i hc; obtain ⟨rfl, rfl⟩ := hc; subst e; rw [List.drop_zero, ← K.rd_len w N _ _ _ h, List.take_length]; exact h
  | .rp _, x, off, y, cs, e, h => by simp only [K.sub] at e; split at e <;> simp at e; rename_i hc; obtain ⟨rfl, rfl⟩ := hc; subst e; rw [List.drop_zero, ← K.rd_len w N _ _ _ h, List.take_length]; exact h
  | .ar _ _, x, off, y, cs, e, h => by simp only [K.sub] at e; split at e <;> simp at e; rename_i hc; obtain ⟨rfl, rfl⟩ := hc; subst e; rw [List.drop_zero, ← K.rd_len w N _ _ _ h, List.take_length]; exact h

theorem constAV_R (v : Value) : (constAV v).R w N Nf β v := by
  unfold constAV
  split <;> first | trivial | exact rfl

theorem All2_const : ∀ l : List Value, All2 (AV.R w N Nf β) (l.map constAV) l
  | [] => trivial
  | v :: l => ⟨constAV_R v, All2_const l⟩

theorem constTV_R (v : Value) : (constTV v).R w N Nf β v := by
  unfold constTV
  split
  · rename_i cs
    exact ⟨cs.toList, by simp, All2_const _⟩
  · exact constAV_R _

end

section
variable {C : Cx} {s : AS} {β : List Bl} {a : Act} {w : World}

theorem Rel.ev (h : Rel C s β a w) (x : Operand) : (s.ev x).R w (C.N s.heap β w) (C.fresh s.heap β w) β (a.eval x) := by
  cases x with
  | tmp t =>
    simp only [AS.ev, Act.eval]
    cases ht : s.tmps[t]? with
    | none => trivial
    | some tv => simpa [ht] using h.tm t tv ht
  | const v => exact constTV_R v
  | global g => trivial
  | func f => exact ⟨[], rfl, trivial⟩

theorem Rel.ev1 (h : Rel C s β a w) {x : Operand} {v : AV} (e : s.ev x = .one v) : v.R w (C.N s.heap β w) (C.fresh s.heap β w) β (a.eval x) := by
  have := h.ev x; rw [e] at this; exact this

theorem Rel.evInt (h : Rel C s β a w) {x : Operand} {k : IntKind} {n : Int} {f : Bool} (e : s.ev x = .one (.dat (.int k) n f)) : a.eval x = .int k n := by
  have := h.ev1 e
  simpa [AV.R, K.rd] using this

theorem Rel.evBool (h : Rel C s β a w) {x : Operand} {b f : Bool} (e : s.ev x = .one (.dat .bool b f)) : a.eval x = .bool b := by
  have := h.ev1 e
  simpa [AV.R, K.rd] using this

theorem hat_eq {h : Heap} {l : Nat} {o : AObj} (e : hat h l = o) (hne : o ≠ .dead) : ∃ f, h[l]? = some (f, o) := by
  unfold hat at e
  cases hl : h[l]? with
  | none => simp [hl] at e; exact absurd e.symm hne
  | some x => simp [hl] at e; exact ⟨x.1, by rw [← e]⟩

theorem Rel.obj (h : Rel C s β a w) {l : Nat} {o : AObj} (e : hat s.heap l = o) (hne : o ≠ .dead) :
    ∃ f r, s.heap[l]? = some (f, o) ∧ β[l]? = some r ∧ o.R w (C.N s.heap β w) (C.fresh s.heap β w) β r := by
  obtain ⟨f, hf⟩ := hat_eq e hne
  have hl : l < s.heap.length := (List.getElem?_eq_some_iff.1 hf).1
  obtain ⟨r, hr⟩ : ∃ r, β[l]? = some r := ⟨_, List.getElem?_eq_getElem (by rw [h.bsize]; exact hl)⟩
  exact ⟨f, r, hf, hr, h.ob l _ r hf hr⟩
end

theorem cellsAt_block {w : World} {b : Nat} {T : TypeId} {fz : Nat × Nat} {pre mid post : List Value} (h : w.heap[b]? = some (.cells (pre ++ mid ++ post).toArray T fz)) :
    cellsAt w b pre.length mid := fun j v e => by
  have hj := (List.getElem?_eq_some_iff.1 e).1
  simp only [World.cell?, h]
  simp only [Option.isSome_none, Bool.false_eq_true, if_false, List.getElem?_toArray]
  rw [List.append_assoc, List.getElem?_append_right (by omega), List.getElem?_append_left (by omega)]
  simpa using e

theorem cellsAt.drop {w : World} {b o : Nat} {es : List Value} (h : cellsAt w b o es) (off : Nat) : cellsAt w b (o + off) (es.drop off) := fun j v e => by
  rw [List.getElem?_drop] at e
  rw [Nat.add_assoc]; exact h _ _ e

theorem cellsAt.take {w : World} {b o : Nat} {es : List Value} (h : cellsAt w b o es) (n : Nat) : cellsAt w b o (es.take n) := fun j v e => by
  refine h j v ?_
  rw [List.getElem?_take] at e
  split at e
  · exact e
  · simp at e

theorem addr_add (b o n : Nat) : (⟨b, o, none⟩ : Addr).add n = ⟨b, o + n, none⟩ := by
  unfold Addr.add; split <;> simp_all

theorem run_isAgg {P : Program} {t : TypeId} {d : TypeDesc} (hd : P.underlying t = some d) (w : World) : (isAgg t).run P w = .ok (isAggT P t) w := by
  unfold isAgg isAggT underlying
  simp only [Sem.run_bind, run_program, Result.andThen_ok, hd, Sem.run_pure]
  cases d <;> rfl

theorem run_sizeOf {P : Program} {t : TypeId} {i : TypeInfo} (hi : P.info? t = some i) (w : World) : (sizeOf t).run P w = .ok i.size w := by
  unfold sizeOf typeInfo
  simp only [Sem.run_bind, run_program, Result.andThen_ok, hi, Sem.run_pure]

theorem run_loadVar_cells {P : Program} {w : World} {t : TypeId} {d : TypeDesc} {i : TypeInfo} {b o : Nat} {es : List Value} (hd : P.underlying t = some d) (hi : P.info? t = some i)
    (hl : es.length = i.size) (hc : cellsAt w b o es) {v : Value} (hv : if isAggT P t then v = .agg es.toArray else es = [v]) :
    (loadVar t ⟨b, o, none⟩).run P w = .ok v w := by
  have hcells : (loadCells ⟨b, o, none⟩ es.length).run P w = .ok es.toArray w :=
    run_loadCells_list w _ es (fun j v e => by rw [addr_add]; exact hc j v e)
  unfold loadVar
  simp only [Sem.run_bind, run_isAgg hd, Result.andThen_ok]
  by_cases hg : isAggT P t = true
  · simp only [hg, if_true] at hv ⊢
    simp only [Sem.run_bind, run_sizeOf hi, Result.andThen_ok, ← hl, hcells, Sem.run_pure, hv]
  · simp only [hg] at hv ⊢
    have hc0 := hc 0 v (by rw [hv]; rfl)
    simp only [Bool.false_eq_true, if_false]
    rw [Nat.add_zero] at hc0
    rw [run_load, hc0]

section
variable {R : Type}

theorem gd_some {c : Prop} [Decidable c] {x : Option R} {r : R} (h : gd c x = some r) : c ∧ x = some r := by
  unfold gd at h; split at h
  · exact ⟨‹_›, h⟩
  · simp at h

theorem cut_some {P : Program} {t : TypeId} {cs : List AV} {off : Nat} {k : TV → Option R} {r : R} (h : cut P t cs off k = some r) :
    ∃ d i tv, P.underlying t = some d ∧ P.info? t = some i ∧ ((cs.drop off).take i.size).length = i.size ∧ shapeTV (isAggT P t) ((cs.drop off).take i.size) = some tv ∧ k tv = some r := by
  unfold cut at h
  split at h
  · rename_i d i hd hi
    dsimp only at h
    split at h
    · rename_i hl
      split at h
      · rename_i tv ht; exact ⟨d, i, tv, hd, hi, hl, ht, h⟩
      · simp at h
    · simp at h
  · simp at h

theorem shapeTV_R {w : World} {N Nf : Nat → Prop} {β : List Bl} {agg : Bool} {c : List AV} {tv : TV} {vs : List Value} (h : shapeTV agg c = some tv) (hc : All2 (AV.R w N Nf β) c vs) :
    ∃ v, tv.R w N Nf β v ∧ (if agg then v = .agg vs.toArray else vs = [v]) := by
  unfold shapeTV at h
  split at h
  · simp at h; subst h; exact ⟨.agg vs.toArray, ⟨vs, rfl, hc⟩, rfl⟩
  · simp at h; subst h
    match vs, hc with
    | [v], hc => exact ⟨v, hc.1, rfl⟩
  · simp at h

theorem cut_load {P : Program} {w : World} {N Nf : Nat → Prop} {β : List Bl} {t : TypeId} {cs : List AV} {off b o : Nat} {es : List Value} {k : TV → Option R} {r : R}
    (h : cut P t cs off k = some r) (hc : All2 (AV.R w N Nf β) cs es) (ha : cellsAt w b o es) :
    ∃ tv v, k tv = some r ∧ (loadVar t ⟨b, o + off, none⟩).run P w = .ok v w ∧ tv.R w N Nf β v := by
  obtain ⟨d, i, tv, hd, hi, hl, ht, hk⟩ := cut_some h
  have hcc := (hc.drop off).take i.size
  obtain ⟨v, hv, he⟩ := shapeTV_R ht hcc
  exact ⟨tv, v, hk, run_loadVar_cells hd hi (by rw [← hcc.len]; exact hl) ((ha.drop off).take _) he, hv⟩

theorem asub_some {P : Program} {t : TypeId} {q : K} {x : q.den} {off : Nat} {fr : Bool} {k : TV → Option R} {r : R} (h : asub P t q x off fr k = some r) :
    ∃ d i kt y tv, P.underlying t = some d ∧ P.info? t = some i ∧ i.size = kt.size ∧ K.sub kt q x off = some y ∧ ((isAggT P t = true ∧ tv = .dat kt y fr) ∨ shapeTV (isAggT P t) (K.cells fr kt y) = some tv) ∧ k tv = some r := by
  unfold asub at h
  split at h
  rotate_left
  · simp at h
  rename_i d i kt hd hi hk
  split at h
  rotate_left
  · simp at h
  rename_i hs
  split at h
  rotate_left
  · simp at h
  rename_i y hy
  split at h
  · rename_i hw hg
    exact ⟨d, i, kt, y, _, hd, hi, hs, hy, .inl ⟨hg, rfl⟩, h⟩
  · simp at h
  · split at h
    · rename_i tv ht
      exact ⟨d, i, kt, y, tv, hd, hi, hs, hy, .inr ht, h⟩
    · simp at h

theorem aloadD_load {P : Program} {w : World} {N Nf : Nat → Prop} {β : List Bl} {t : TypeId} {q : K} {x : q.den} {off b o : Nat} {fr : Bool} {es : List Value} {k : TV → Option R} {r : R}
    (h : aloadD P t q x off fr k = some r) (hc : q.rd w (if fr then Nf else N) x es) (ha : cellsAt w b o es) :
    ∃ tv v, k tv = some r ∧ (loadVar t ⟨b, o + off, none⟩).run P w = .ok v w ∧ tv.R w N Nf β v := by
  unfold aloadD at h
  split at h
  rotate_left
  · exact cut_load h (K.cells_R fr q x es hc) ha
  obtain ⟨d, i, kt, y, tv, hd, hi, hs, hy, hcase, hk⟩ := asub_some h
  have hr := K.sub_rd q x off y es hy hc
  have hl := K.rd_len w _ kt y _ hr
  rcases hcase with ⟨hg, rfl⟩ | ht
  · refine ⟨_, .agg ((es.drop off).take kt.size).toArray, hk, run_loadVar_cells hd hi (by rw [hl, hs]) ((ha.drop off).take _) (by rw [if_pos hg]), TV.dat_R.2 ⟨_, rfl, hr⟩⟩
  · obtain ⟨v, hv, he⟩ := shapeTV_R ht (K.cells_R (β := β) (N := N) (Nf := Nf) fr kt y _ hr)
    exact ⟨tv, v, hk, run_loadVar_cells hd hi (by rw [hl, hs]) ((ha.drop off).take _) he, hv⟩

theorem rows.get {α : Type} {Q : α → List Value → Prop} {n : Nat} (hn : ∀ x c, Q x c → c.length = n) : ∀ {l : List α} {m : List Value}, rows Q l m → ∀ (i : Nat) (x : α), l[i]? = some x → Q x ((m.drop (i * n)).take n)
  | [], _, _, i, x, e => by simp at e
  | y :: l, _, ⟨c, cs', e, q, t⟩, 0, x, h => by
    simp at h; subst h
    have := hn _ _ q
    rw [e]; simp [← this]; exact q
  | y :: l, _, ⟨c, cs', e, q, t⟩, i + 1, x, h => by
    simp at h
    have := hn _ _ q
    have := rows.get hn t i x h
    rw [e, Nat.add_mul, Nat.one_mul, List.drop_append]
    rwa [List.drop_eq_nil_of_le (by omega), List.nil_append, show i * n + n - c.length = i * n by omega]

end
end Go.Proofs.AM
end

section
namespace Go.Proofs.AM
open Go Go.RowKit

def Makes (P : Program) (C : Cx) (s : AS) (β : List Bl) (w : World) {R : Type} (x : Sem Value) (k : TV → Option R) (r : R) : Prop :=
  ∃ tv v, k tv = some r ∧ x.run P w = .ok v w ∧ tv.R w (C.N s.heap β w) (C.fresh s.heap β w) β v

section
variable {P : Program} {C : Cx} {s : AS} {β : List Bl} {a : Act} {w : World} {R : Type} {k : TV → Option R} {r : R}

theorem vec_cells (h : Rel C s β a w) {l : Nat} {T : TypeId} {q : K} {xs : List q.den} {fr : Bool} (e : hat s.heap l = .vec T q xs fr) (hx : 0 < xs.length) :
    ∃ f b mid, s.heap[l]? = some (f, .vec T q xs fr) ∧ β[l]? = some b ∧ b.real = true ∧ b.n = xs.length ∧ b.sz = q.size ∧ b.n ≤ b.cap ∧ cellsAt w b.blk b.base mid ∧
      rows (q.rd w (if fr then C.fresh s.heap β w else C.N s.heap β w)) xs mid := by
  obtain ⟨f, b, hf, hb, h1, h2, h3, h4⟩ := h.obj e (by simp)
  by_cases hr : b.real = true
  · simp only [hr, if_true] at h4
    obtain ⟨pre, mid, post, hh, hp, hm, _⟩ := h4
    refine ⟨f, b, mid, hf, hb, hr, h1, h2, h3, ?_, hm⟩
    rw [← hp]; exact cellsAt_block hh
  · simp only [hr] at h4
    have h4 : b.n = 0 := h4
    omega

theorem drows_get {kh ki : K} {hole : Option Nat} : ∀ {j : Nat} {xs : List (kh.den × List ki.den)} {rs : List IB} {cs : List Value}, drows w kh ki hole j xs rs cs → ∀ {i : Nat} {x : kh.den × List ki.den}, xs[i]? = some x →
    ∃ ri ch v, rs[i]? = some ri ∧ (cs.drop (i * (kh.size + 1))).take (kh.size + 1) = ch ++ [v] ∧ kh.rd w (fun _ => False) x.1 ch ∧ (hole = some (j + i) ∨ ∃ A c, v = .slice A ri.n c ∧ ri.n ≤ c ∧ ri.slice A c)
  | _, [], [], _, _, i, x, e => by simp at e
  | j, y :: xs, ri :: rs, _, ⟨ch, v, cs', rfl, h1, h2, h3⟩, 0, x, e => by
    simp at e; subst e
    have hl := K.rd_len w _ kh _ _ h1
    refine ⟨ri, ch, v, rfl, ?_, h1, by simpa using h2⟩
    rw [Nat.zero_mul, List.drop_zero, show ch ++ v :: cs' = (ch ++ [v]) ++ cs' by simp]
    exact List.take_left' (by simp [hl])
  | j, y :: xs, ri :: rs, _, ⟨ch, v, cs', rfl, h1, h2, h3⟩, i + 1, x, e => by
    have hl := K.rd_len w _ kh _ _ h1
    obtain ⟨r0, c0, v0, g1, g2, g3, g4⟩ := drows_get h3 (i := i) (x := x) (by simpa using e)
    refine ⟨r0, c0, v0, by simpa using g1, ?_, g3, by rwa [show j + (i + 1) = j + 1 + i by omega]⟩
    rw [← g2]
    congr 1
    rw [show ch ++ v :: cs' = (ch ++ [v]) ++ cs' by simp, Nat.add_mul, Nat.one_mul, Nat.add_comm (i * _), ← List.drop_drop]
    rw [List.drop_left' (by simp [hl])]
  | _, [], _ :: _, _, h, _, _, _ => h.elim
  | _, _ :: _, [], _, h, _, _, _ => h.elim

theorem drows_len {kh ki : K} {hole : Option Nat} : ∀ {j : Nat} {xs : List (kh.den × List ki.den)} {rs : List IB} {cs : List Value}, drows w kh ki hole j xs rs cs → cs.length = xs.length * (kh.size + 1) ∧ rs.length = xs.length
  | _, [], [], _, h => by have h : _ = _ := h; simp [h]
  | j, y :: xs, ri :: rs, _, ⟨ch, v, cs', rfl, h1, h2, h3⟩ => by
    have hl := K.rd_len w _ kh _ _ h1
    obtain ⟨g1, g2⟩ := drows_len h3
    refine ⟨?_, by simp [g2]⟩
    simp [hl, g1, Nat.add_mul]; omega
  | _, [], _ :: _, _, h => h.elim
  | _, _ :: _, [], _, h => h.elim

theorem Rel.pool (h : Rel C s β a w) {nm p : Nat} (e : hpool s.heap nm = some p) : ∃ f r rp T T' kh ki xs hole, hat s.heap p = .dvec T T' kh ki xs hole ∧ s.heap[p]? = some (f, .dvec T T' kh ki xs hole) ∧ β[nm]? = some r ∧ β[p]? = some rp ∧
    rp.blk = r.blk ∧ rp.base = r.base ∧ rp.sz = r.sz ∧ rp.n = r.n ∧ rp.cap = r.cap ∧ rp.real = r.real ∧ (AObj.dvec T T' kh ki xs hole).R w (C.N s.heap β w) (C.fresh s.heap β w) β rp := by
  unfold hpool at e
  split at e
  · rename_i T T' kh ki xs hole ho
    simp only [Option.some.injEq] at e
    subst e
    obtain ⟨f, r, h1, h2, h3⟩ := h.obj ho (by simp)
    exact ⟨f, r, r, T, T', kh, ki, xs, hole, ho, h1, h2, h2, rfl, rfl, rfl, rfl, rfl, rfl, h3⟩
  · rename_i q ho
    split at e
    rotate_left
    · simp at e
    rename_i T T' kh ki xs hole hp
    simp only [Option.some.injEq] at e
    subst e
    obtain ⟨f0, r0, h1, h2, rp, g1, g2, g3, g4, g5, g6, g7⟩ := h.obj ho (by simp)
    obtain ⟨f, r, k1, k2, k3⟩ := h.obj hp (by simp)
    rw [g1] at k2; cases k2
    exact ⟨f, r0, rp, T, T', kh, ki, xs, hole, hp, k1, h2, g1, g2, g3, g4, g5, g6, g7, k3⟩
  · simp at e

theorem All2.at {α γ : Type} {Q : α → γ → Prop} : ∀ {l : List α} {m : List γ}, All2 Q l m → ∀ {i : Nat} {b : γ}, m[i]? = some b → ∃ a, l[i]? = some a ∧ Q a b
  | [], [], _, _, _, e => by simp at e
  | x :: _, y :: _, h, 0, b, e => by simp at e; exact ⟨x, by simp, e ▸ h.1⟩
  | _ :: _, _ :: _, h, i + 1, b, e => by simp at e; simpa using All2.at h.2 e
  | [], _ :: _, h, _, _, _ => h.elim
  | _ :: _, [], h, _, _, _ => h.elim

theorem Rel.inner (h : Rel C s β a w) {p i : Nat} {T T' : TypeId} {kh ki : K} {xs : List (kh.den × List ki.den)} {hole : Option Nat} (e : hat s.heap p = .dvec T T' kh ki xs hole) {r : Bl} {ri : IB} (hr : β[p]? = some r) (hi : r.inn[i]? = some ri) :
    i < xs.length ∧ kh.flat = true ∧ ki.flat = true ∧ ri.row w T' ki (ith xs i) := by
  obtain ⟨f, b, hf, hb, h1, h2, h3, h4, h5, h6, h7, h8⟩ := h.obj e (by simp)
  rw [hr] at hb; cases hb
  obtain ⟨x, hx, hq⟩ := h7.get hi
  refine ⟨(List.getElem?_eq_some_iff.1 hx).1, h4, h5, ?_⟩
  unfold ith
  rw [hx]; exact hq

theorem IB.row_cells {T : TypeId} {k : K} {r : IB} {xs : List k.den} (h : r.row w T k xs) (hx : 0 < xs.length) : r.real = true ∧ ∃ mid, cellsAt w r.blk r.base mid ∧ rows (k.rd w (fun _ => False)) xs mid := by
  obtain ⟨h1, h2, h3, h4⟩ := h
  by_cases hr : r.real = true
  · simp only [hr, if_true] at h4
    obtain ⟨pre, mid, post, hh, hp, hm, _⟩ := h4
    exact ⟨hr, mid, by rw [← hp]; exact cellsAt_block hh, hm⟩
  · simp only [hr] at h4
    have h4 : r.n = 0 := h4
    omega

theorem aload_sound (h : Rel C s β a w) {t : TypeId} {x : AV} {v : Value} (hx : x.R w (C.N s.heap β w) (C.fresh s.heap β w) β v) (e : aload P s.heap t x k = some r) :
    Makes P C s β w (Instr.loadAt t v) k r := by
  unfold aload at e
  split at e
  · rename_i l off
    split at e
    · rename_i T cs ho
      obtain ⟨rr, hr, rfl⟩ := hx
      obtain ⟨f, b, hf, hb, vs, hh, hz, hc⟩ := h.obj ho (by simp)
      rw [hr] at hb; cases hb
      have hcell : cellsAt w rr.blk rr.base vs := by
        rw [hz]; exact cellsAt_block (pre := []) (post := []) (by simpa using hh)
      exact cut_load e hc hcell
    · rename_i T q y fr ho
      obtain ⟨rr, hr, rfl⟩ := hx
      obtain ⟨f, b, hf, hb, vs, hh, hz, hc⟩ := h.obj ho (by simp)
      rw [hr] at hb; cases hb
      have hcell : cellsAt w rr.blk rr.base vs := by
        rw [hz]; exact cellsAt_block (pre := []) (post := []) (by simpa using hh)
      exact aloadD_load e hc hcell
    · simp at e
  · rename_i q x off fr
    obtain ⟨b, o, es, rfl, _, hc, hr⟩ := hx
    exact aloadD_load e hr hc
  · rename_i q x fr
    obtain ⟨b, o, es, ev, _, hc, hr⟩ := hx
    simp only [List.cons.injEq, and_true] at ev; subst ev
    exact aloadD_load e hr hc
  · rename_i l i off
    split at e
    · rename_i T q xs fr ho
      obtain ⟨hi, e⟩ := gd_some e
      obtain ⟨rr, hr, rfl⟩ := hx
      obtain ⟨f, b, mid, hf, hb, _, _, hsz, _, hc, hrow⟩ := vec_cells h ho (by omega)
      rw [hr] at hb; cases hb
      have hg := rows.get (fun x c => K.rd_len w _ q x c) hrow i (xs.getD i q.dflt) (by simp [List.getElem?_eq_getElem hi])
      have hc2 := (hc.drop (i * q.size)).take q.size
      have := aloadD_load (β := β) (N := C.N s.heap β w) (Nf := C.fresh s.heap β w) e hg hc2
      rw [hsz]; rwa [Nat.add_assoc] at this
    · rename_i T q xs fr j m ho
      obtain ⟨hi, e1⟩ := gd_some e
      clear e
      subst hi
      obtain ⟨rr, hr, rfl⟩ := hx
      obtain ⟨f, b, hf, hb, pre, m1, v, m2, post, hv, hh, g1, g2, g3, g4, g5, g6, g7, r1, r2⟩ := h.obj ho (by simp)
      rw [hr] at hb; cases hb
      have hl1 := rows.len (fun x c => K.rd_len w _ (K.sl q) x c) r1
      have hl1' : m1.length = i := by rw [hl1]; simp [K.size]; omega
      have hc : cellsAt w rr.blk rr.base (m1 ++ v :: m2) := by rw [← g6]; exact cellsAt_block hh
      have hc2 := (hc.drop i).take 1
      rw [← hl1', List.drop_left, List.take_succ_cons, List.take_zero, hl1'] at hc2
      have hcs : All2 (AV.R w (C.N s.heap β w) (C.fresh s.heap β w) β) [.vf m] [v] := ⟨hv, trivial⟩
      have := cut_load e1 hcs hc2
      simp only [Bl.addr]
      rw [g2, Nat.mul_one]
      rwa [Nat.add_assoc] at this
    · split at e
      rotate_left
      · simp at e
      rename_i p hpl
      split at e
      rotate_left
      · simp at e
      rename_i T T' kh ki xs hob
      obtain ⟨hi, e⟩ := gd_some e
      obtain ⟨rr, hr, rfl⟩ := hx
      obtain ⟨f, r0, rp, T1, T1', kh1, ki1, xs1, hole1, k1, k2, k3, k4, k5, k6, k7, k8, k9, k10, kR⟩ := h.pool hpl
      rw [hob] at k1; cases k1
      rw [hr] at k3; cases k3
      obtain ⟨q1, q2, q3, q4, q5, q6, q7, q8⟩ := kR
      by_cases hreal : rp.real = true
      rotate_left
      · simp only [hreal] at q8
        have q8 : rp.n = 0 := q8
        omega
      simp only [hreal, if_true] at q8
      obtain ⟨pre, mid, post, hh, hp, hm, hcap⟩ := q8
      have hxi : xs[i]? = some xs[i] := List.getElem?_eq_getElem hi
      obtain ⟨ri, ch, v, g1, g2, g3, g4⟩ := drows_get hm hxi
      have hc : cellsAt w rp.blk rp.base mid := by rw [← hp]; exact cellsAt_block hh
      have hc2 := (hc.drop (i * (kh.size + 1))).take (kh.size + 1)
      rw [g2] at hc2
      have hcs : All2 (AV.R w (C.N s.heap β w) (C.fresh s.heap β w) β) (K.cells true kh xs[i].1 ++ [.dv l p i]) (ch ++ [v]) := by
        refine (K.cells_R true kh _ _ (K.rd_flat kh _ _ q4 g3)).app ⟨?_, trivial⟩
        rcases g4 with g4 | ⟨A, c, ev, hle, hsl⟩
        · simp at g4
        · exact ⟨rr, rp, ri, A, c, hr, k4, g1, ev, hle, hsl⟩
      rw [show hth xs i = xs[i].1 by unfold hth; rw [hxi]] at e
      have := cut_load e hcs hc2
      simp only [Bl.addr]
      rw [← k5, ← k6, ← k7, q2]
      rwa [Nat.add_assoc] at this
  · rename_i p i j off
    split at e
    rotate_left
    · simp at e
    rename_i T T' kh ki xs hole hob
    obtain ⟨hj, e⟩ := gd_some e
    obtain ⟨rr, ri, hr, hi, rfl⟩ := hx
    obtain ⟨_, _, hfl, hrow⟩ := h.inner hob hr hi
    obtain ⟨hreal, mid, hc, hm⟩ := IB.row_cells hrow (by omega)
    have hg := rows.get (fun x c => K.rd_len w _ ki x c) hm j ((ith xs i).getD j ki.dflt) (by
      generalize ith xs i = ys at hj
      rw [List.getD_eq_getElem?_getD, List.getElem?_eq_getElem hj]; rfl)
    have hc2 := (hc.drop (j * ki.size)).take ki.size
    have := cut_load e (K.cells_R (N := C.N s.heap β w) (Nf := C.fresh s.heap β w) (β := β) true ki _ _ (K.rd_flat ki _ _ hfl hg)) hc2
    rw [hrow.2.1]; exact this
  · simp at e

theorem abin_sound {op : BinOp} {t : TypeId} {kx ky : IntKind} {m n : Int} {x y : Operand} (e : abin op kx m ky n k = some r) :
    Makes P C s β w (do eqGuard op t x y (.int kx m) (.int ky n); binOp op t (.int kx m) (.int ky n)) k r := by
  have hg : (eqGuard op t x y (.int kx m) (.int ky n)).run P w = .ok () w := by
    unfold eqGuard
    cases op <;> simp
  suffices hs : Makes P C s β w (binOp op t (.int kx m) (.int ky n)) k r by
    obtain ⟨tv, v, h1, h2, h3⟩ := hs
    exact ⟨tv, v, h1, by simp only [Sem.run_bind, hg, Result.andThen_ok, h2], h3⟩
  unfold abin at e
  split at e
  · obtain ⟨hn, e⟩ := gd_some e
    refine ⟨_, _, e, ?_, rfl⟩
    simp [binOp, Op.shift, Int.not_lt.2 hn, ishl]
  · obtain ⟨hn, e⟩ := gd_some e
    refine ⟨_, _, e, ?_, rfl⟩
    simp [binOp, Op.shift, Int.not_lt.2 hn, ishr]
  · split at e
    · rename_i hk
      subst hk
      cases op <;> first | (exact absurd rfl ‹_ = BinOp.shl → False›) | (exact absurd rfl ‹_ = BinOp.shr → False›) | skip
      all_goals first
        | (simp at e; done)
        | (refine ⟨_, _, e, ?_, rfl⟩; simp [binOp, Op.intArith, Op.intBits, Op.intCmp, iand, ior, ixor, iandn]; done)
        | skip
      all_goals
        dsimp only at e
        split at e
        · simp at e
        · rename_i hz
          refine ⟨_, _, e, ?_, rfl⟩
          simp [binOp, Op.intDiv, hz]
    · simp at e

theorem alen_sound (h : Rel C s β a w) {x : AV} {v : Value} (hx : x.R w (C.N s.heap β w) (C.fresh s.heap β w) β v) {n : Int} (e : alen s.heap x = some n) :
    ∃ A len cap, v = .slice A len cap ∧ n = (len : Int) ∧ len ≤ cap := by
  unfold alen at e
  split at e
  · simp at e; subst e
    obtain ⟨A, c, ev, hl, _⟩ := hx
    simp only [List.cons.injEq, and_true] at ev
    exact ⟨A, _, c, ev, rfl, hl⟩
  · simp at e; subst e
    exact ⟨none, 0, 0, hx, rfl, Nat.le_refl _⟩
  · rename_i l
    split at e
    · rename_i T q xs fr ho
      simp at e; subst e
      obtain ⟨rr, A, c, hr, rfl, hc, _⟩ := hx
      obtain ⟨f, b, hf, hb, h1, _⟩ := h.obj ho (by simp)
      rw [hr] at hb; cases hb
      exact ⟨A, _, c, rfl, by rw [h1], hc⟩
    · simp at e
  · simp at e; subst e
    obtain ⟨rr, A, c, hr, rfl, hc, _⟩ := hx
    exact ⟨A, _, c, rfl, rfl, hc⟩
  · simp at e; subst e
    obtain ⟨rr, A, c, hr, _, _, rfl, hc, _⟩ := hx
    exact ⟨A, _, c, rfl, rfl, hc⟩
  · simp at e; subst e
    obtain ⟨rr, A, c, hr, _, rfl, hc, _⟩ := hx
    exact ⟨A, _, c, rfl, rfl, hc⟩
  · split at e
    · rename_i ho
      simp at e; subst e
      obtain ⟨rn, rr, ri, A, c, hn, hr, hi, rfl, hc, _⟩ := hx
      obtain ⟨_, _, _, hrow⟩ := h.inner ho hr hi
      exact ⟨A, _, c, rfl, by rw [hrow.1], hc⟩
    · simp at e
  · simp at e

theorem afields_some {t : TypeId} {i : Nat} {f : Field} (e : afields P t i = some f) : ∃ fs, P.underlying t = some (.struct fs) ∧ fs[i]? = some f := by
  unfold afields at e; split at e
  · rename_i fs hfs; exact ⟨fs, hfs, e⟩
  · simp at e

theorem aelem_some {t e : TypeId} (h : aelem P t = some e) : P.underlying t = some (.slice e) := by
  unfold aelem at h; split at h
  · rename_i x hx; simp at h; rw [hx, h]
  · simp at h

theorem run_underlying' {t : TypeId} {d : TypeDesc} (h : P.underlying t = some d) (w : World) : (underlying t).run P w = .ok d w := by
  unfold underlying
  simp only [Sem.run_bind, run_program, Result.andThen_ok, h, Sem.run_pure]

theorem cellsOf_ne {t : TypeId} (h : P.cellsOf t ≠ 0) : ∃ i, P.info? t = some i ∧ i.size = P.cellsOf t := by
  unfold Program.cellsOf at h ⊢
  cases hi : P.info? t with
  | none => simp [hi] at h
  | some i => exact ⟨i, rfl, by simp⟩

theorem run_fieldAt {t : TypeId} {fs : Array Field} {i : Nat} {f : Field} (hu : P.underlying t = some (.struct fs)) (hf : fs[i]? = some f) (hz : P.cellsOf f.type ≠ 0) (b o : Nat) :
    (Instr.fieldAt t (.pointer (some ⟨b, o, none⟩)) i).run P w = .ok (.pointer (some ⟨b, o + f.offset, none⟩)) w := by
  obtain ⟨inf, hi, hsz⟩ := cellsOf_ne hz
  unfold Instr.fieldAt
  simp only [Sem.run_bind, run_underlying' hu, Result.andThen_ok, hf, Instr.sureAddr, Sem.run_pure, fieldPlace, run_sizeOf hi]
  rw [if_neg (by omega)]
  simp only [Sem.run_pure, Result.andThen_ok, addr_add]

theorem afieldAddr_sound {t : TypeId} {i : Nat} {f : Field} (ef : afields P t i = some f) {x : AV} {v : Value} (hx : x.R w (C.N s.heap β w) (C.fresh s.heap β w) β v)
    (e : afieldAddr P f x k = some r) : Makes P C s β w (Instr.fieldAt t v i) k r := by
  obtain ⟨fs, hu, hf⟩ := afields_some ef
  unfold afieldAddr at e
  split at e
  · simp at e
  rename_i hz
  split at e
  · obtain ⟨rr, hr, rfl⟩ := hx
    refine ⟨_, _, e, run_fieldAt hu hf hz _ _, rr, hr, ?_⟩
    simp [Bl.addr, Nat.add_assoc]
  · obtain ⟨b, o, es, rfl, h1, h2, h3⟩ := hx
    refine ⟨_, _, e, run_fieldAt hu hf hz _ _, b, o, es, ?_, h1, h2, h3⟩
    rw [Nat.add_assoc]
  · obtain ⟨b, o, es, ev, h1, h2, h3⟩ := hx
    simp only [List.cons.injEq, and_true] at ev; subst ev
    exact ⟨_, _, e, run_fieldAt hu hf hz _ _, b, o, es, rfl, h1, h2, h3⟩
  · obtain ⟨rr, hr, rfl⟩ := hx
    refine ⟨_, _, e, run_fieldAt hu hf hz _ _, rr, hr, ?_⟩
    simp [Bl.addr, Nat.add_assoc]
  · obtain ⟨rr, ri, hr, hi, rfl⟩ := hx
    refine ⟨_, _, e, run_fieldAt hu hf hz _ _, rr, ri, hr, hi, ?_⟩
    simp [Nat.add_assoc]
  · simp at e

theorem run_indexAt {t et : TypeId} (hu : P.underlying t = some (.slice et)) {inf : TypeInfo} (hi : P.info? et = some inf) {b o len cap : Nat} {q : IntKind} {i : Int} (h0 : 0 ≤ i) (h1 : i < (len : Int)) :
    (Instr.indexAt t (.slice (some ⟨b, o, none⟩) len cap) (.int q i)).run P w = .ok (.pointer (some ⟨b, o + i.toNat * inf.size, none⟩)) w := by
  unfold Instr.indexAt
  simp only [Sem.run_bind, asIntOf, Sem.run_pure, Result.andThen_ok, run_underlying' hu]
  simp only [h0, h1, and_self, if_true, Sem.run_bind, run_sizeOf hi, Result.andThen_ok, addr_add, Sem.run_pure]

theorem szOk_some {et : TypeId} {n : Nat} {x : Option R} (e : szOk P et n x = some r) : ∃ inf, P.info? et = some inf ∧ inf.size = n ∧ x = some r := by
  unfold szOk at e
  split at e
  · rename_i inf hi
    split at e
    · exact ⟨inf, hi, ‹_›, e⟩
    · simp at e
  · simp at e

theorem aindexAddr_sound (h : Rel C s β a w) {t et : TypeId} (eu : aelem P t = some et) {x : AV} {v : Value} (hx : x.R w (C.N s.heap β w) (C.fresh s.heap β w) β v) {q : IntKind} {i : Int}
    (e : aindexAddr P s.heap et x i k = some r) : Makes P C s β w (Instr.indexAt t v (.int q i)) k r := by
  have hu := aelem_some eu
  unfold aindexAddr at e
  split at e
  · rename_i q' xs fr
    obtain ⟨inf, hi, hs, e⟩ := szOk_some e
    obtain ⟨h0, e⟩ := gd_some e
    obtain ⟨h1, e⟩ := gd_some e
    obtain ⟨A, c, ev, hl, hcase⟩ := hx
    simp only [List.cons.injEq, and_true] at ev; subst ev
    rcases hcase with hz | ⟨b, off, es, rfl, hN, hc, hrow⟩
    · omega
    have hg := rows.get (fun x c => K.rd_len w _ q' x c) hrow i.toNat (List.getD xs i.toNat q'.dflt) (by
      rw [List.getD_eq_getElem?_getD, List.getElem?_eq_getElem (by omega)]; rfl)
    refine ⟨_, _, e, run_indexAt hu hi h0 h1, b, off + i.toNat * inf.size, _, rfl, hN, ?_, hg⟩
    rw [hs]; exact (hc.drop _).take _
  · rename_i l
    split at e
    · rename_i T q' xs fr ho
      obtain ⟨inf, hi, hs, e⟩ := szOk_some e
      obtain ⟨h0, e⟩ := gd_some e
      obtain ⟨h1, e⟩ := gd_some e
      obtain ⟨rr, A, c, hr, rfl, hc, hsl⟩ := hx
      obtain ⟨f, b, hf, hb, hn, hz, _⟩ := h.obj ho (by simp)
      rw [hr] at hb; cases hb
      rcases hsl with ⟨hreal, rfl, _⟩ | ⟨hz, _⟩
      · refine ⟨_, _, e, ?_, rr, hr, rfl⟩
        simp only [Bl.addr, Nat.zero_mul, Nat.add_zero]
        rw [run_indexAt hu hi h0 (by omega), hs, hz]
      · omega
    · rename_i T q' xs fr j m ho
      obtain ⟨inf, hi, hs, e⟩ := szOk_some e
      obtain ⟨h0, e⟩ := gd_some e
      obtain ⟨h1, e⟩ := gd_some e
      obtain ⟨rr, A, c, hr, rfl, hc, hsl⟩ := hx
      obtain ⟨f, b, hf, hb, pre, m1, v, m2, post, hv, hh, hn, hz, _⟩ := h.obj ho (by simp)
      rw [hr] at hb; cases hb
      rcases hsl with ⟨hreal, rfl, _⟩ | ⟨hz, _⟩
      · refine ⟨_, _, e, ?_, rr, hr, rfl⟩
        simp only [Bl.addr, Nat.zero_mul, Nat.add_zero]
        rw [run_indexAt hu hi h0 (by omega), hs, hz]
      · omega
    · simp at e
  · rename_i l off len
    split at e
    · rename_i T q' xs fr ho
      obtain ⟨inf, hi, hs, e⟩ := szOk_some e
      obtain ⟨h0, e⟩ := gd_some e
      obtain ⟨h1, e⟩ := gd_some e
      obtain ⟨rr, A, c, hr, rfl, hc, _, hsl⟩ := hx
      obtain ⟨f, b, hf, hb, hn, hz, _⟩ := h.obj ho (by simp)
      rw [hr] at hb; cases hb
      rcases hsl with ⟨hreal, rfl, _⟩ | ⟨hz, _⟩
      · refine ⟨_, _, e, ?_, rr, hr, rfl⟩
        simp only [Bl.addr]
        rw [run_indexAt hu hi h0 h1, hs, hz, Nat.add_mul]
        simp [Nat.add_assoc]
      · omega
    · simp at e
  · rename_i nm n sz
    obtain ⟨inf, hi, hs, e⟩ := szOk_some e
    obtain ⟨h0, e⟩ := gd_some e
    obtain ⟨h1, e⟩ := gd_some e
    obtain ⟨rr, A, c, hr, hn, hz, rfl, hc, hsl⟩ := hx
    rcases hsl with ⟨hreal, rfl, _⟩ | ⟨hz, _⟩
    · refine ⟨_, _, e, ?_, rr, hr, rfl⟩
      simp only [Bl.addr, Nat.zero_mul, Nat.add_zero]
      rw [run_indexAt hu hi h0 h1, hs, hz]
    · omega
  · rename_i nm off n sz
    obtain ⟨inf, hi, hs, e⟩ := szOk_some e
    obtain ⟨h0, e⟩ := gd_some e
    obtain ⟨h1, e⟩ := gd_some e
    obtain ⟨rr, A, c, hr, hz, rfl, hc, _, hsl⟩ := hx
    rcases hsl with ⟨hreal, rfl, _⟩ | ⟨hz, _⟩
    · refine ⟨_, _, e, ?_, rr, hr, rfl⟩
      simp only [Bl.addr]
      rw [run_indexAt hu hi h0 h1, hs, hz, Nat.add_mul]
      simp [Nat.add_assoc]
    · omega
  · rename_i nm p m
    split at e
    rotate_left
    · simp at e
    rename_i T T' kh ki xs hole hob
    obtain ⟨inf, hi, hs, e⟩ := szOk_some e
    obtain ⟨h0, e⟩ := gd_some e
    obtain ⟨h1, e⟩ := gd_some e
    obtain ⟨rn, rr, ri, A, c, hn, hr, hir, rfl, hc, hsl⟩ := hx
    obtain ⟨_, _, hfl, hrow⟩ := h.inner hob hr hir
    rcases hsl with ⟨hreal, rfl, _⟩ | ⟨hz, _⟩
    · refine ⟨_, _, e, ?_, rr, ri, hr, hir, rfl⟩
      rw [run_indexAt hu hi h0 (by rw [hrow.1]; exact h1), hs, hrow.2.1]
      simp
    · have := hrow.1; omega
  · simp at e

theorem run_sliceBounds {n cap : Nat} {lo hi : Option Value} {l h : Int} (hl : lo = none ∧ l = 0 ∨ ∃ q, lo = some (.int q l)) (hh : hi = none ∧ h = n ∨ ∃ q, hi = some (.int q h))
    (h0 : 0 ≤ l) (h1 : l ≤ h) (h2 : h ≤ (n : Int)) (hc : n ≤ cap) : (Instr.sliceBounds true n cap lo hi none).run P w = .ok (l.toNat, h.toNat, cap) w := by
  unfold Instr.sliceBounds
  have e1 : ∀ q code, (Instr.sliceBound (.int q h) cap code).run P w = .ok h.toNat w := fun q code => by
    unfold Instr.sliceBound
    simp only [Sem.run_bind, asIntOf, Sem.run_pure, Result.andThen_ok]
    rw [if_pos ⟨by omega, by omega⟩]; rfl
  have e2 : ∀ q code, (Instr.sliceBound (.int q l) h.toNat code).run P w = .ok l.toNat w := fun q code => by
    unfold Instr.sliceBound
    simp only [Sem.run_bind, asIntOf, Sem.run_pure, Result.andThen_ok]
    rw [if_pos ⟨by omega, by omega⟩]; rfl
  rcases hl with ⟨rfl, rfl⟩ | ⟨q, rfl⟩ <;> rcases hh with ⟨rfl, rfl⟩ | ⟨q', rfl⟩ <;> simp [Sem.run_bind, e1, e2]
  have := e2 q .sliceB
  simp at this
  simp [this]

theorem run_slice {t et : TypeId} (hu : P.underlying t = some (.slice et)) {inf : TypeInfo} (hinf : P.info? et = some inf) {A : Option Addr} {n cap : Nat} {lo hi : Option Value} {l h : Int}
    (hl : lo = none ∧ l = 0 ∨ ∃ q, lo = some (.int q l)) (hh : hi = none ∧ h = n ∨ ∃ q, hi = some (.int q h))
    (h0 : 0 ≤ l) (h1 : l ≤ h) (h2 : h ≤ (n : Int)) (hc : n ≤ cap) :
    (Instr.sliceAt t (.slice A n cap) lo hi none).run P w = .ok (.slice (if cap = l.toNat then A else A.map (·.add (l.toNat * inf.size))) (h.toNat - l.toNat) (cap - l.toNat)) w := by
  unfold Instr.sliceAt Instr.slice
  simp only [Sem.run_bind, run_underlying' hu, Result.andThen_ok, run_sliceBounds hl hh h0 h1 h2 hc, run_sizeOf hinf, Sem.run_pure]

theorem aslice_sound (h : Rel C s β a w) {t et : TypeId} (eu : aelem P t = some et) {inf : TypeInfo} (hinf : P.info? et = some inf) {x : AV} {v : Value} (hx : x.R w (C.N s.heap β w) (C.fresh s.heap β w) β v)
    {n l u : Int} (en : alen s.heap x = some n) {lo hi : Option Value} (hl : lo = none ∧ l = 0 ∨ ∃ q, lo = some (.int q l)) (hh : hi = none ∧ u = n ∨ ∃ q, hi = some (.int q u))
    (hsz : ∀ q xs fr, x = .dat (.sl q) xs fr → inf.size = q.size) (hsz' : ∀ m, (x = .vf m ∨ ∃ o k, x = .vw m o k) → ∀ b, β[m]? = some b → inf.size = b.sz)
    (hsz'' : ∀ m n z, (x = .hv m n z ∨ ∃ o, x = .hw m o n z) → inf.size = z)
    (e : aslice s.heap x l u n k = some r) : Makes P C s β w (Instr.sliceAt t v lo hi none) k r := by
  obtain ⟨A, len, cap, rfl, rfl, hcap⟩ := alen_sound h hx en
  unfold aslice at e
  obtain ⟨h0, e1⟩ := gd_some e; clear e
  obtain ⟨h1, e2⟩ := gd_some e1; clear e1
  obtain ⟨h2, e⟩ := gd_some e2; clear e2
  have hrun := run_slice (P := P) (w := w) (aelem_some eu) hinf (A := A) hl hh h0 h1 h2 hcap
  split at e
  · rename_i q xs fr
    refine ⟨_, _, e, hrun, ?_⟩
    obtain ⟨A', c', ev, hle, hcase⟩ := hx
    simp only [List.cons.injEq, and_true, Value.slice.injEq] at ev
    obtain ⟨rfl, hlen, rfl⟩ := ev
    have hs := hsz q xs fr rfl
    have hl' : (List.take (u.toNat - l.toNat) (List.drop l.toNat xs)).length = u.toNat - l.toNat := by simp; omega
    refine ⟨_, _, by rw [hl'], by rw [hl']; omega, ?_⟩
    rcases hcase with hz | ⟨b, off, es, rfl, hN, hc, hrow⟩
    · left; rw [hl']; omega
    · by_cases hcl : u.toNat - l.toNat = 0
      · left; rw [hl']; exact hcl
      right
      rw [if_neg (by omega)]
      refine ⟨b, off + l.toNat * inf.size, (es.drop (l.toNat * q.size)).take ((u.toNat - l.toNat) * q.size), by simp [addr_add], hN, ?_, ?_⟩
      · rw [hs]; exact (hc.drop _).take _
      · have hsplit : xs = List.take l.toNat xs ++ (List.take (u.toNat - l.toNat) (List.drop l.toNat xs) ++ List.drop (u.toNat - l.toNat) (List.drop l.toNat xs)) := by
          rw [List.take_append_drop, List.take_append_drop]
        rw [hsplit] at hrow
        obtain ⟨m1, m2, rfl, r1, r2⟩ := rows.of_app hrow
        obtain ⟨m3, m4, rfl, r3, r4⟩ := rows.of_app r2
        have e1 := rows.len (fun x c => K.rd_len w _ q x c) r1
        have e3 := rows.len (fun x c => K.rd_len w _ q x c) r3
        rw [hl'] at e3
        have e1' : m1.length = l.toNat * q.size := by rw [e1]; congr 1; simp; omega
        rw [← e1', List.drop_left, ← e3, List.take_left]
        exact r3
  · rename_i m
    obtain ⟨rr, A', c', hr, ev, hle, hsl⟩ := hx
    simp only [Value.slice.injEq] at ev
    obtain ⟨rfl, rfl, rfl⟩ := ev
    have hs := hsz' m (.inl rfl) _ hr
    refine ⟨_, _, e, hrun, rr, _, _, hr, rfl, by omega, by omega, ?_⟩
    rcases hsl with ⟨hreal, rfl, hcc⟩ | ⟨hz1, hz2⟩
    · by_cases hcl : cap = l.toNat
      · right; omega
      · left; refine ⟨hreal, ?_, by omega⟩
        rw [if_neg hcl]; simp [Bl.addr, addr_add, hs]
    · right; omega
  · rename_i m off len'
    obtain ⟨rr, A', c', hr, ev, hle, hoff, hsl⟩ := hx
    simp only [Value.slice.injEq] at ev
    obtain ⟨rfl, rfl, rfl⟩ := ev
    have hs := hsz' m (.inr ⟨_, _, rfl⟩) _ hr
    refine ⟨_, _, e, hrun, rr, _, _, hr, rfl, by omega, by omega, ?_⟩
    rcases hsl with ⟨hreal, rfl, hcc⟩ | ⟨hz1, hz2⟩
    · by_cases hcl : cap = l.toNat
      · right; omega
      · left; refine ⟨hreal, ?_, by omega⟩
        rw [if_neg hcl]; simp [Bl.addr, addr_add, hs, Nat.add_mul, Nat.add_assoc]
    · right; omega
  · rename_i m n' sz
    obtain ⟨rr, A', c', hr, hn, hz, ev, hle, hsl⟩ := hx
    simp only [Value.slice.injEq] at ev
    obtain ⟨rfl, rfl, rfl⟩ := ev
    have hs := hsz'' m _ sz (.inl rfl)
    refine ⟨_, _, e, hrun, rr, _, _, hr, hz, rfl, by omega, by omega, ?_⟩
    rcases hsl with ⟨hreal, rfl, hcc⟩ | ⟨hz1, hz2⟩
    · by_cases hcl : cap = l.toNat
      · right; omega
      · left; refine ⟨hreal, ?_, by omega⟩
        rw [if_neg hcl]; simp [Bl.addr, addr_add, hs, hz]
    · right; omega
  · rename_i m off n' sz
    obtain ⟨rr, A', c', hr, hz, ev, hle, hoff, hsl⟩ := hx
    simp only [Value.slice.injEq] at ev
    obtain ⟨rfl, rfl, rfl⟩ := ev
    have hs := hsz'' m _ sz (.inr ⟨_, rfl⟩)
    refine ⟨_, _, e, hrun, rr, _, _, hr, hz, rfl, by omega, by omega, ?_⟩
    rcases hsl with ⟨hreal, rfl, hcc⟩ | ⟨hz1, hz2⟩
    · by_cases hcl : cap = l.toNat
      · right; omega
      · left; refine ⟨hreal, ?_, by omega⟩
        rw [if_neg hcl]; simp [Bl.addr, addr_add, hs, hz, Nat.add_mul, Nat.add_assoc]
    · right; omega
  · simp at e

theorem asz_sound (h : Rel C s β a w) {x : AV} {z : Nat} (e : asz s.heap x = some z) :
    (∀ q xs fr, x = .dat (.sl q) xs fr → z = q.size) ∧ (∀ m, (x = .vf m ∨ ∃ o k, x = .vw m o k) → ∀ b, β[m]? = some b → z = b.sz) ∧ (∀ m n y, (x = .hv m n y ∨ ∃ o, x = .hw m o n y) → z = y) := by
  have vec : ∀ m, (match hat s.heap m with | .vec _ q _ _ => some q.size | _ => none) = some z → ∀ b, β[m]? = some b → z = b.sz := by
    intro m hm b hb
    split at hm
    · rename_i T q xs fr ho
      simp at hm
      obtain ⟨f, b', hf, hb', _, hz, _⟩ := h.obj ho (by simp)
      rw [hb] at hb'; cases hb'
      omega
    · simp at hm
  cases x with
  | dat k' y fr' =>
    refine ⟨fun q xs fr hx => ?_, fun m hx => ?_, fun m n y hx => ?_⟩
    · cases hx; simp [asz] at e; exact e.symm
    · rcases hx with hx | ⟨_, _, hx⟩ <;> cases hx
    · rcases hx with hx | ⟨_, hx⟩ <;> cases hx
  | vf l =>
    refine ⟨fun q xs fr hx => (by cases hx), fun m hx => ?_, fun m n y hx => (by rcases hx with hx | ⟨_, hx⟩ <;> cases hx)⟩
    rcases hx with hx | ⟨_, _, hx⟩ <;> cases hx
    exact vec l e
  | vw l o k =>
    refine ⟨fun q xs fr hx => (by cases hx), fun m hx => ?_, fun m n y hx => (by rcases hx with hx | ⟨_, hx⟩ <;> cases hx)⟩
    rcases hx with hx | ⟨_, _, hx⟩ <;> cases hx
    exact vec l e
  | hv l n z' =>
    simp only [asz, Option.some.injEq] at e
    refine ⟨fun q xs fr hx => (by cases hx), fun m hx => (by rcases hx with hx | ⟨_, _, hx⟩ <;> cases hx), fun m n y hx => ?_⟩
    rcases hx with hx | ⟨_, hx⟩ <;> cases hx
    exact e.symm
  | hw l o n z' =>
    simp only [asz, Option.some.injEq] at e
    refine ⟨fun q xs fr hx => (by cases hx), fun m hx => (by rcases hx with hx | ⟨_, _, hx⟩ <;> cases hx), fun m n y hx => ?_⟩
    rcases hx with hx | ⟨_, hx⟩ <;> cases hx
    exact e.symm
  | _ => simp [asz] at e

theorem abound_sound (h : Rel C s β a w) {d : Int} {x : Option Operand} {n : Int} (e : abound s d x = some n) :
    (x.map a.eval = none ∧ n = d) ∨ ∃ q, x.map a.eval = some (.int q n) := by
  unfold abound at e
  split at e
  · simp at e; exact .inl ⟨rfl, e.symm⟩
  · split at e
    · rename_i x q n' f hx
      simp at e; subst e
      exact .inr ⟨q, by simp [h.evInt hx]⟩
    · simp at e

theorem aarr_some {t e : TypeId} {n : Nat} (h : aarr P t = some (n, e)) : P.underlying t = some (.array n e) := by
  unfold aarr at h
  split at h
  · rename_i m e' he
    simp only [Option.some.injEq, Prod.mk.injEq] at h
    obtain ⟨rfl, rfl⟩ := h
    exact he
  · simp at h

theorem run_sliceBoundsA {n : Nat} {lo hi : Option Value} {l h : Int} (hl : lo = none ∧ l = 0 ∨ ∃ q, lo = some (.int q l)) (hh : hi = none ∧ h = n ∨ ∃ q, hi = some (.int q h))
    (h0 : 0 ≤ l) (h1 : l ≤ h) (h2 : h ≤ (n : Int)) : (Instr.sliceBounds false n n lo hi none).run P w = .ok (l.toNat, h.toNat, n) w := by
  unfold Instr.sliceBounds
  have e1 : ∀ q code, (Instr.sliceBound (.int q h) n code).run P w = .ok h.toNat w := fun q code => by
    unfold Instr.sliceBound
    simp only [Sem.run_bind, asIntOf, Sem.run_pure, Result.andThen_ok]
    rw [if_pos ⟨by omega, by omega⟩]; rfl
  have e2 : ∀ q code, (Instr.sliceBound (.int q l) h.toNat code).run P w = .ok l.toNat w := fun q code => by
    unfold Instr.sliceBound
    simp only [Sem.run_bind, asIntOf, Sem.run_pure, Result.andThen_ok]
    rw [if_pos ⟨by omega, by omega⟩]; rfl
  rcases hl with ⟨rfl, rfl⟩ | ⟨q, rfl⟩ <;> rcases hh with ⟨rfl, rfl⟩ | ⟨q', rfl⟩ <;> simp [Sem.run_bind, e1, e2]
  have := e2 q .sliceB
  simp at this
  simp [this]

theorem asliceA_sound (h : Rel C s β a w) {t : TypeId} {q : K} {y : q.den} {off : Nat} {fr : Bool} {b o : Nat} {es : List Value} (hN : (if fr then C.fresh s.heap β w else C.N s.heap β w) b) (hc : cellsAt w b o es)
    (hr : q.rd w (if fr then C.fresh s.heap β w else C.N s.heap β w) y es) {lo hi : Option Operand} {k : TV → Option R} {r : R} (e : asliceA P s t q y off fr lo hi k = some r) :
    Makes P C s β w (Instr.sliceAt t (.pointer (some ⟨b, o + off, none⟩)) (lo.map a.eval) (hi.map a.eval) none) k r := by
  unfold asliceA at e
  split at e
  rotate_left
  · simp at e
  rename_i n et hae
  have hu := aarr_some hae
  split at e
  rotate_left
  · simp at e
  rename_i inf ke hinf hke
  split at e
  rotate_left
  · simp at e
  rename_i hsz
  split at e
  rotate_left
  · simp at e
  rename_i xs l u hsub hlo hhi
  obtain ⟨h0, e1⟩ := gd_some e; clear e
  obtain ⟨h1, e2⟩ := gd_some e1; clear e1
  obtain ⟨h2, e⟩ := gd_some e2; clear e2
  have hl : lo.map a.eval = none ∧ l = 0 ∨ ∃ q, lo.map a.eval = some (.int q l) := abound_sound h hlo
  have hh : hi.map a.eval = none ∧ u = n ∨ ∃ q, hi.map a.eval = some (.int q u) := abound_sound h hhi
  have hrow := K.sub_rd q y off xs es hsub hr
  obtain ⟨hxn, hrow⟩ := hrow
  have hes := rows.len (fun x c => K.rd_len w _ ke x c) hrow
  have hrun : (Instr.sliceAt t (.pointer (some ⟨b, o + off, none⟩)) (lo.map a.eval) (hi.map a.eval) none).run P w =
      .ok (.slice (some (if n = l.toNat then ⟨b, o + off, none⟩ else (⟨b, o + off, none⟩ : Addr).add (l.toNat * inf.size))) (u.toNat - l.toNat) (n - l.toNat)) w := by
    unfold Instr.sliceAt
    simp only [Sem.run_bind, run_underlying' hu, Result.andThen_ok, Instr.sureAddr, Sem.run_pure, run_sliceBoundsA hl hh h0 h1 h2, run_sizeOf hinf]
  refine ⟨_, _, e, hrun, ?_⟩
  have hl' : (List.take (u.toNat - l.toNat) (List.drop l.toNat (show List ke.den from xs))).length = u.toNat - l.toNat := by
    have hxn : List.length (show List ke.den from xs) = n := hxn
    simp only [List.length_take, List.length_drop]; omega
  refine ⟨_, _, by rw [hl'], by rw [hl']; omega, ?_⟩
  by_cases hcl : u.toNat - l.toNat = 0
  · left; rw [hl']; exact hcl
  right
  have hz : ((es.drop off).take (K.ar n ke).size) = ((es.drop off).take (n * ke.size)) := rfl
  rw [hz] at hrow hes
  refine ⟨b, o + off + l.toNat * inf.size, ((((es.drop off).take (n * ke.size)).drop (l.toNat * ke.size)).take ((u.toNat - l.toNat) * ke.size)), by rw [if_neg (by omega), addr_add], hN, ?_, ?_⟩
  · rw [hsz]; exact ((((hc.drop off).take _).drop _).take _)
  · generalize ((es.drop off).take (n * ke.size)) = cs at hrow hes
    have hxn : List.length (show List ke.den from xs) = n := hxn
    generalize (show List ke.den from xs) = ys at hrow hes hxn hl'
    have hsplit : ys = List.take l.toNat ys ++ (List.take (u.toNat - l.toNat) (List.drop l.toNat ys) ++ List.drop (u.toNat - l.toNat) (List.drop l.toNat ys)) := by
      rw [List.take_append_drop, List.take_append_drop]
    rw [hsplit] at hrow
    obtain ⟨m1, m2, rfl, r1, r2⟩ := rows.of_app hrow
    obtain ⟨m3, m4, rfl, r3, r4⟩ := rows.of_app r2
    have e1 := rows.len (fun x c => K.rd_len w _ ke x c) r1
    have e3 := rows.len (fun x c => K.rd_len w _ ke x c) r3
    rw [hl'] at e3
    have e1' : m1.length = l.toNat * ke.size := by rw [e1]; congr 1; simp; omega
    rw [← e1', List.drop_left, ← e3, List.take_left]
    exact r3

theorem intsOf_sound (h : Rel C s β a w) : ∀ {xs : List Operand} {l : List (IntKind × Int)}, intsOf (xs.map s.ev) = some l → xs.map a.eval = l.map fun p => .int p.1 p.2
  | [], l, e => by simp [intsOf] at e; subst e; rfl
  | x :: xs, l, e => by
    simp only [List.map_cons] at e
    unfold intsOf at e
    split at e
    · rename_i he; simp at he
    · rename_i k n f r he
      simp only [List.cons.injEq] at he
      split at e
      · rename_i ls hls
        simp at e; subst e
        rw [← he.2] at hls
        simp [h.evInt he.1, intsOf_sound h hls]
      · simp at e
    · simp at e

theorem capsOf_sound (h : Rel C s β a w) : ∀ {xs : List Operand} {l : List Nat}, capsOf (xs.map s.ev) = some l → All2 (fun l b => ∃ r, β[l]? = some r ∧ b = Value.pointer (r.addr 0)) l (xs.map a.eval)
  | [], l, e => by simp [capsOf] at e; subst e; trivial
  | x :: xs, l, e => by
    simp only [List.map_cons] at e
    unfold capsOf at e
    split at e
    · rename_i he; simp at he
    · rename_i m r he
      simp only [List.cons.injEq] at he
      split at e
      · rename_i ls hls
        simp at e; subst e
        rw [← he.2] at hls
        refine ⟨?_, capsOf_sound h hls⟩
        have := h.ev1 he.1
        exact this
      · simp at e
    · simp at e

theorem max_fold (q : IntKind) : ∀ (r : List (IntKind × Int)) (n : Int), ((r.map fun p => Value.int p.1 p.2).foldlM Builtin.max2 (.int q n)).run P w = .ok (.int q (r.foldl (fun x y => if y.2 > x then y.2 else x) n)) w
  | [], n => rfl
  | p :: r, n => by
    simp only [List.map_cons, List.foldlM_cons, Sem.run_bind, List.foldl_cons]
    simp only [Builtin.max2, Sem.run_pure, Result.andThen_ok]
    exact max_fold q r _

theorem min_fold (q : IntKind) : ∀ (r : List (IntKind × Int)) (n : Int), ((r.map fun p => Value.int p.1 p.2).foldlM Builtin.min2 (.int q n)).run P w = .ok (.int q (r.foldl (fun x y => if y.2 < x then y.2 else x) n)) w
  | [], n => rfl
  | p :: r, n => by
    simp only [List.map_cons, List.foldlM_cons, Sem.run_bind, List.foldl_cons]
    simp only [Builtin.min2, Sem.run_pure, Result.andThen_ok]
    exact min_fold q r _

theorem AV.R_one {w : World} {N Nf : Nat → Prop} {β : List Bl} {x : AV} {v : Value} (h : x.R w N Nf β v) (h1 : x.isOne = true) : v.cells = #[v] ∧ v.oneCell' = true := by
  have key : ∀ k (y : K.den k) (M : Nat → Prop), k.rd w M y [v] → v.cells = #[v] ∧ v.oneCell' = true := by
    intro k
    induction k with
    | int q => intro y M h; simp [K.rd] at h; subst h; exact ⟨rfl, rfl⟩
    | bool => intro y M h; simp [K.rd] at h; subst h; exact ⟨rfl, rfl⟩
    | str => intro y M h; simp [K.rd] at h; subst h; exact ⟨rfl, rfl⟩
    | unit => intro y M h; simp [K.rd] at h
    | pair a b iha ihb =>
      intro y M h
      obtain ⟨c, d, e, h1, h2⟩ := h
      cases c with
      | nil => simp at e; subst e; exact ihb _ M h2
      | cons c0 c =>
        simp at e
        obtain ⟨rfl, e⟩ := e
        obtain ⟨rfl, rfl⟩ : c = [] ∧ d = [] := by simpa [and_comm] using e.symm
        exact iha _ M h1
    | sl k _ => intro y M h; obtain ⟨A, c, e, _⟩ := h; simp at e; subst e; exact ⟨rfl, rfl⟩
    | rp k _ => intro y M h; obtain ⟨A, c, _, e, _⟩ := h; simp at e; subst e; exact ⟨rfl, rfl⟩
    | ar n k ih =>
      intro y M h
      have go : ∀ ys : List k.den, rows (k.rd w M) ys [v] → v.cells = #[v] ∧ v.oneCell' = true := by
        intro ys
        induction ys with
        | nil => intro h; simp [rows] at h
        | cons y ys ihy =>
          rintro ⟨c, cs', e, h1, h2⟩
          cases c with
          | nil => simp at e; subst e; exact ihy h2
          | cons c0 c =>
            simp at e
            obtain ⟨rfl, e⟩ := e
            obtain ⟨rfl, rfl⟩ : c = [] ∧ cs' = [] := by simpa [and_comm] using e.symm
            exact ih y M h1
      exact go y h.2
  cases x with
  | junk => simp [AV.isOne] at h1
  | dat k y fr => exact key k y _ h
  | nilsl => have h : v = _ := h; subst h; exact ⟨rfl, rfl⟩
  | nilp => have h : v = _ := h; subst h; exact ⟨rfl, rfl⟩
  | nilf => have h : v = _ := h; subst h; exact ⟨rfl, rfl⟩
  | ro k y off fr => obtain ⟨_, _, _, rfl, _⟩ := h; exact ⟨rfl, rfl⟩
  | ptr l off => obtain ⟨_, _, rfl⟩ := h; exact ⟨rfl, rfl⟩
  | vf l => obtain ⟨_, _, _, _, rfl, _⟩ := h; exact ⟨rfl, rfl⟩
  | vw l off len => obtain ⟨_, _, _, _, rfl, _⟩ := h; exact ⟨rfl, rfl⟩
  | vp l i off => obtain ⟨_, _, rfl⟩ := h; exact ⟨rfl, rfl⟩
  | fn f caps => obtain ⟨_, rfl, _⟩ := h; exact ⟨rfl, rfl⟩
  | mp l => obtain ⟨_, _, rfl⟩ := h; exact ⟨rfl, rfl⟩
  | yl l => obtain ⟨_, _, rfl⟩ := h; exact ⟨rfl, rfl⟩
  | wk l => obtain ⟨_, _, rfl⟩ := h; exact ⟨rfl, rfl⟩
  | st l => obtain ⟨_, _, rfl⟩ := h; exact ⟨rfl, rfl⟩
  | nili => have h : v = _ := h; subst h; exact ⟨rfl, rfl⟩
  | ifc t a => obtain ⟨_, rfl, _⟩ := h; exact ⟨rfl, rfl⟩
  | hv l n sz => obtain ⟨_, _, _, _, _, _, rfl, _⟩ := h; exact ⟨rfl, rfl⟩
  | hw l o n sz => obtain ⟨_, _, _, _, _, rfl, _⟩ := h; exact ⟨rfl, rfl⟩
  | dv l m i => obtain ⟨_, _, _, _, _, _, _, _, rfl, _⟩ := h; exact ⟨rfl, rfl⟩
  | dp l i j off => obtain ⟨_, _, _, _, rfl⟩ := h; exact ⟨rfl, rfl⟩

theorem TV.R_cells {w : World} {N Nf : Nat → Prop} {β : List Bl} {t : TV} {v : Value} (h : t.R w N Nf β v) (hs : t.solid = true) : All2 (AV.R w N Nf β) t.cells v.cells.toList := by
  cases t with
  | one x =>
    have := (AV.R_one h hs).1
    rw [this]; exact ⟨h, trivial⟩
  | agg cs => obtain ⟨vs, rfl, hc⟩ := h; simpa [TV.cells, Value.cells] using hc
  | tup cs => simp [TV.solid] at hs
  | dat k x fr => obtain ⟨_, vs, rfl, hc⟩ := h; simpa [TV.cells, Value.cells] using hc

theorem foldl_splice : ∀ (vs : List Value) (off j : Nat) (cells : List Value), off + j + vs.length ≤ cells.length →
    (vs.zipIdx j).foldl (fun cs p => cs.set (off + p.2) p.1) cells = cells.take (off + j) ++ vs ++ cells.drop (off + j + vs.length)
  | [], off, j, cells, h => by simp
  | v :: vs, off, j, cells, h => by
    simp only [List.length_cons] at h
    simp only [List.zipIdx_cons, List.foldl_cons]
    rw [foldl_splice vs off (j + 1) _ (by simp; omega)]
    have e : (cells.set (off + j) v) = cells.take (off + j) ++ v :: cells.drop (off + j + 1) := by
      rw [List.set_eq_take_append_cons_drop, if_pos (by omega)]
    rw [e, List.take_append, List.drop_append]
    simp only [List.length_take, List.length_cons]
    rw [show min (off + j) cells.length = off + j by omega, show off + (j + 1) - (off + j) = 1 by omega,
      show off + (j + 1) + vs.length - (off + j) = vs.length + 1 by omega, List.take_of_length_le (by simp; omega), List.drop_eq_nil_of_le (as := List.take _ _) (by simp; omega)]
    simp only [List.take_succ_cons, List.take_zero, List.nil_append, List.drop_succ_cons, List.drop_drop, List.append_assoc, List.cons_append]
    rw [show off + j + 1 + vs.length = off + j + (vs.length + 1) by omega]

theorem fill_step (cells vs : Array Value) (off : Nat) (h : off + vs.size ≤ cells.size) :
    vs.zipIdx.foldl (fun cs (p : Value × Nat) => cs.setIfInBounds (off + p.2) p.1) cells = (cells.toList.take off ++ vs.toList ++ cells.toList.drop (off + vs.size)).toArray := by
  have key : ∀ (l : List (Value × Nat)) (c : Array Value), l.foldl (fun cs p => cs.setIfInBounds (off + p.2) p.1) c = (l.foldl (fun cs p => cs.set (off + p.2) p.1) c.toList).toArray := by
    intro l
    induction l with
    | nil => intro c; simp
    | cons p l ih => intro c; simp only [List.foldl_cons]; rw [ih]; simp
  rw [← Array.foldl_toList, key]
  have := foldl_splice vs.toList off 0 cells.toList (by simpa using h)
  simp only [Nat.add_zero] at this
  rw [Array.toList_zipIdx, this]
  simp

theorem All2.splice {w : World} {N Nf : Nat → Prop} {β : List Bl} {cs new : List AV} {vs vn : List Value} {off : Nat} (h : All2 (AV.R w N Nf β) cs vs) (hn : All2 (AV.R w N Nf β) new vn) :
    All2 (AV.R w N Nf β) (splice cs off new) (vs.take off ++ vn ++ vs.drop (off + vn.length)) := by
  unfold AM.splice
  rw [hn.len]
  exact ((h.take _).app hn).app (h.drop _)

theorem afill_sound {w : World} {N Nf : Nat → Prop} {β : List Bl} {place : Nat → Option (Nat × Nat)} :
    ∀ {ps : List (Nat × TV)} {qs : List (Nat × Value)} {cells : List AV} {vals : Array Value} {out : List AV}, All2 (fun p q => p.1 = q.1 ∧ p.2.R w N Nf β q.2) ps qs →
      All2 (AV.R w N Nf β) cells vals.toList → afill place cells ps = some out → ∃ res, Instr.fill place vals qs = some res ∧ All2 (AV.R w N Nf β) out res.toList
  | [], [], cells, vals, out, _, h, e => by simp [afill] at e; subst e; exact ⟨vals, rfl, h⟩
  | (i, t) :: ps, (i', v) :: qs, cells, vals, out, hp, h, e => by
    obtain ⟨⟨rfl, ht⟩, hp⟩ := hp
    unfold afill at e
    unfold Instr.fill
    split at e
    · simp at e
    · rename_i off size hpl
      split at e
      · rename_i hc
        obtain ⟨hs, hl, hle⟩ := hc
        have hcl := TV.R_cells ht hs
        have hlen := hcl.len
        have hlen' := h.len
        simp only [Array.length_toList] at hlen hlen'
        rw [hpl]
        dsimp only
        rw [if_neg (by simp; omega)]
        have hf := fill_step vals v.cells off (by omega)
        have hsp := h.splice (off := off) hcl
        obtain ⟨res, hr, ho⟩ := afill_sound (vals := (vals.toList.take off ++ v.cells.toList ++ vals.toList.drop (off + v.cells.size)).toArray) hp (by simpa using hsp) e
        exact ⟨res, by rw [← hr]; congr 1, ho⟩
      · simp at e
  | [], _ :: _, _, _, _, h, _, _ => h.elim
  | _ :: _, [], _, _, _, h, _, _ => h.elim
end
end Go.Proofs.AM
end

section
namespace Go.Proofs.AM
open Go Go.RowKit

theorem cut_part {P : Program} {w : World} {N Nf : Nat → Prop} {β : List Bl} {t : TypeId} {cs : List AV} {off : Nat} {vs : List Value} {tv : TV}
    (h : cut P t cs off some = some tv) (hc : All2 (AV.R w N Nf β) cs vs) : ∃ v, (part t vs.toArray off).run P w = .ok v w ∧ tv.R w N Nf β v := by
  obtain ⟨d, inf, tv', hd, hi, hl, ht, hk⟩ := cut_some h
  cases hk
  obtain ⟨v, hvr, hcase⟩ := shapeTV_R ht ((hc.drop off).take inf.size)
  refine ⟨v, ?_, hvr⟩
  simp only [part, Sem.run_bind, run_isAgg hd, Result.andThen_ok]
  by_cases hg : isAggT P t = true
  · simp only [hg, if_true] at hcase ⊢
    simp only [Sem.run_bind, run_sizeOf hi, Result.andThen_ok, Sem.run_pure, hcase]
    congr 3
    rw [List.extract_toArray, List.extract_eq_take_drop]
    simp
  · simp only [hg] at hcase ⊢
    have : vs[off]? = some v := by
      have e0 : ((vs.drop off).take inf.size)[0]? = some v := by rw [hcase]; rfl
      rw [List.getElem?_take] at e0
      split at e0
      · simpa using e0
      · simp at e0
    simp [this]

theorem aeqFields_sound {P : Program} {w : World} {N Nf : Nat → Prop} {β : List Bl} {f : TypeId → TV → TV → Option Bool} {d : Nat}
    (hf : ∀ t x y u v b, f t x y = some b → x.R w N Nf β u → y.R w N Nf β v → (Op.equalIn d t u v).run P w = .ok b w) {xs ys : List AV} {us vs : List Value} (hx : All2 (AV.R w N Nf β) xs us) (hy : All2 (AV.R w N Nf β) ys vs) :
    ∀ (fs : List Field) (b : Bool), aeqFields P f xs ys fs = some b → (Op.eqFields d us.toArray vs.toArray fs).run P w = .ok b w
  | [], b, e => by simp [aeqFields] at e; subst e; simp [Op.eqFields]
  | g :: r, b, e => by
    unfold aeqFields at e
    split at e
    · simp at e
    rename_i hn
    split at e
    rotate_left
    · simp at e
    rename_i a c h1 h2
    obtain ⟨u, hu, hur⟩ := cut_part h1 hx
    obtain ⟨v, hv, hvr⟩ := cut_part h2 hy
    split at e
    rotate_left
    · simp at e
    rename_i p hp
    have he := hf _ _ _ _ _ _ hp hur hvr
    have hn' : g.name ≠ "_" := hn
    split at e
    · simp only [Option.some.injEq] at e
      subst e
      simp only [Op.eqFields, if_pos hn', Sem.run_bind, hu, hv, he, Result.andThen_ok]
      cases p <;> simp
    · split at e
      · rename_i q hq
        simp only [Option.some.injEq] at e
        subst e
        have ih := aeqFields_sound hf hx hy r q hq
        rw [Op.eqFields]
        simp only [if_pos hn', Sem.run_bind, hu, hv, he, Result.andThen_ok]
        cases p
        · simp
        · simpa using ih
      · simp at e

theorem aeq_sound {P : Program} {w : World} {N Nf : Nat → Prop} {β : List Bl} : ∀ (n d : Nat) (t : TypeId) (x y : TV) (u v : Value) (b : Bool), aeq P n t x y = some b → x.R w N Nf β u → y.R w N Nf β v → (Op.equalIn (n + d) t u v).run P w = .ok b w
  | 0, _, _, _, _, _, _, _, e, _, _ => by simp [aeq] at e
  | n + 1, d, t, x, y, u, v, b, e, hx, hy => by
    rw [show n + 1 + d = (n + d) + 1 by omega]
    unfold aeq at e
    split at e
    · rename_i p _ q _ hu
      simp only [Option.some.injEq] at e
      subst e
      have h1 : u = .bool p := by simpa [TV.R, AV.R, K.rd] using hx
      have h2 : v = .bool q := by simpa [TV.R, AV.R, K.rd] using hy
      subst h1; subst h2
      simp [Op.equalIn, run_underlying' hu]
    · rename_i k p _ k' q _ hu
      split at e
      · rename_i hk
        subst hk
        simp only [Option.some.injEq] at e
        subst e
        have h1 : u = .int k p := by simpa [TV.R, AV.R, K.rd] using hx
        have h2 : v = .int k q := by simpa [TV.R, AV.R, K.rd] using hy
        subst h1; subst h2
        simp [Op.equalIn, run_underlying' hu]
      · simp at e
    · rename_i fs xs ys hu
      split at e
      · simp at e
      rename_i hs
      obtain ⟨us, rfl, hxs⟩ := hx
      obtain ⟨vs, rfl, hys⟩ := hy
      have hfs : P.fieldsOf t = fs := by simp [Program.fieldsOf, hu]
      rw [run_equalIn_struct (P := P) w (n + d) t us.toArray vs.toArray (by rw [hfs]; exact hu) (by simpa using hs), hfs]
      exact aeqFields_sound (fun t x y u v b e hx hy => aeq_sound n d t x y u v b e hx hy) hxs hys fs.toList b e
    · simp at e

theorem All2.parts {C : Cx} {s : AS} {β : List Bl} {a : Act} {w : World} (h : Rel C s β a w) : ∀ (l : List (Nat × Operand)),
    All2 (fun p q => p.1 = q.1 ∧ p.2.R w (C.N s.heap β w) (C.fresh s.heap β w) β q.2) (l.map fun p => (p.1, s.ev p.2)) (l.map fun p => (p.1, a.eval p.2))
  | [] => trivial
  | p :: l => ⟨⟨rfl, h.ev p.2⟩, All2.parts h l⟩

def Any (C : Cx) (w : World) (b : Nat) : Prop := (C.N0 b ∨ C.w0.heap.size ≤ b ∨ C.F b) ∧ b < w.heap.size
def AnyF (C : Cx) (w : World) (b : Nat) : Prop := (C.w0.heap.size ≤ b ∨ C.F b) ∧ b < w.heap.size

section
variable {C : Cx} {s : AS} {β : List Bl} {a : Act} {w : World}

theorem Rel.N_any {b : Nat} (x : C.N s.heap β w b) : Any C w b := ⟨x.1.elim .inl (fun h => .inr (.inl h)), x.2.1⟩
theorem Rel.f_any {b : Nat} (x : C.fresh s.heap β w b) : AnyF C w b := ⟨.inl x.1, x.2.1⟩
theorem AnyF.any {b : Nat} (x : AnyF C w b) : Any C w b := ⟨.inr x.1, x.2⟩

theorem drows_rows {kh ki : K} {Nf : Nat → Prop} {T : TypeId} (f1 : kh.flat = true) (f2 : ki.flat = true) : ∀ {j : Nat} {xs : List (kh.den × List ki.den)} {rs : List IB} {cs : List Value}, drows w kh ki none j xs rs cs →
    (∀ ri ∈ rs, ri.real = true → Nf ri.blk) → All2 (fun (ri : IB) (x : kh.den × List ki.den) => ri.row w T ki x.2) rs xs → rows ((K.pair kh (.sl ki)).rd w Nf) xs cs
  | _, [], [], _, h, _, _ => h
  | j, x :: xs, ri :: rs, _, ⟨ch, v, cs', rfl, h1, h2, h3⟩, hN, h4 => by
    refine ⟨ch ++ [v], cs', by simp, ⟨ch, [v], rfl, K.rd_flat kh _ _ f1 h1, ?_⟩, drows_rows f1 f2 h3 (fun r hr => hN r (by simp [hr])) h4.2⟩
    obtain ⟨hn, hz, hcap, hrow⟩ := h4.1
    rcases h2 with h2 | ⟨A, c, rfl, hle, hsl⟩
    · simp at h2
    refine ⟨A, c, by rw [← hn], by omega, ?_⟩
    by_cases hx : x.2.length = 0
    · exact .inl hx
    right
    obtain ⟨hreal, mid, hc, hm⟩ := IB.row_cells (w := w) (T := T) (k := ki) (xs := x.2) ⟨hn, hz, hcap, hrow⟩ (by omega)
    rcases hsl with ⟨_, rfl, _⟩ | ⟨h0, _⟩
    · exact ⟨ri.blk, ri.base, mid, rfl, hN ri (by simp) hreal, hc, hm.mono fun x y => K.rd_flat ki _ _ f2⟩
    · omega
  | _, [], _ :: _, _, h, _, _ => h.elim
  | _, _ :: _, [], _, h, _, _ => h.elim

theorem deep_inn {r : Bl} {ri : IB} (h : ri ∈ r.inn) (hr : ri.real = true) : ri.blk ∈ r.deep := List.mem_append_right _ (List.mem_map.2 ⟨ri, List.mem_filter.2 ⟨h, hr⟩, rfl⟩)
theorem deep_out {r : Bl} (hr : r.real = true) : r.blk ∈ r.deep := List.mem_append_left _ (by simp [hr])

theorem bor_any (h : Rel C s β a w) {x : AV} {v : Value} (hx : x.R w (C.N s.heap β w) (C.fresh s.heap β w) β v) : (x.bor s.heap).R w (Any C w) (AnyF C w) β v := by
  have base : ∀ y : AV, y.R w (C.N s.heap β w) (C.fresh s.heap β w) β v → y.R w (Any C w) (AnyF C w) β v := fun y hy =>
    AV.R_mono (N := C.N s.heap β w) (Nf := C.fresh s.heap β w) (fun _ _ => rfl) (fun b h => Rel.N_any h) (fun b h => Cx.fresh_N h) (fun b h => Rel.f_any h) (fun _ _ h => h) y v hy
  unfold AV.bor
  split
  · rename_i l
    split
    · rename_i T q xs fr ho
      obtain ⟨rr, A, c, hr, rfl, hc, hsl⟩ := hx
      obtain ⟨f, b, hf, hb, hn, _⟩ := h.obj ho (by simp)
      rw [hr] at hb; cases hb
      refine ⟨A, c, by rw [hn], by omega, ?_⟩
      by_cases hz : xs.length = 0
      · exact .inl hz
      obtain ⟨f', b', mid, hf', hb', hreal, _, _, _, hcell, hrow⟩ := vec_cells h ho (by omega)
      rw [hr] at hb'; cases hb'
      right
      rcases hsl with ⟨_, rfl, _⟩ | ⟨h1, _⟩
      · refine ⟨rr.blk, rr.base, mid, by simp [Bl.addr], ?_, hcell, hrow.mono fun x y => K.rd_mono (fun _ _ => rfl) (fun b hb => ?_) q x y⟩
        · have := h.occ l _ rr rr.blk hf hr (by simp [AObj.occ, hreal]); cases fr; exact ⟨.inr this.2, this.1⟩; exact ⟨this.2, this.1⟩
        · cases fr
          · exact Rel.N_any hb
          · exact Rel.f_any hb
      · omega
    · trivial
  · rename_i l off len
    split
    · rename_i T q xs fr ho
      obtain ⟨rr, A, c, hr, rfl, hc, hoff, hsl⟩ := hx
      obtain ⟨f, b, hf, hb, hn, _⟩ := h.obj ho (by simp)
      rw [hr] at hb; cases hb
      have hlen : ((xs.drop off).take len).length = len := by simp; omega
      refine ⟨A, c, by rw [hlen], by rw [hlen]; omega, ?_⟩
      by_cases hz : len = 0
      · left; rw [hlen]; exact hz
      obtain ⟨f', b', mid, hf', hb', hreal, _, hsz, _, hcell, hrow⟩ := vec_cells h ho (by omega)
      rw [hr] at hb'; cases hb'
      right
      rcases hsl with ⟨_, rfl, _⟩ | ⟨h1, _⟩
      · have hsplit : xs = xs.take off ++ ((xs.drop off).take len ++ (xs.drop off).drop len) := by
          rw [List.take_append_drop, List.take_append_drop]
        rw [hsplit] at hrow
        obtain ⟨m1, m2, rfl, r1, r2⟩ := rows.of_app hrow
        obtain ⟨m3, m4, rfl, r3, r4⟩ := rows.of_app r2
        have e1 := rows.len (fun x c => K.rd_len w _ q x c) r1
        have e1' : m1.length = off * rr.sz := by rw [e1, hsz]; congr 1; simp; omega
        refine ⟨rr.blk, rr.base + off * rr.sz, m3, by simp [Bl.addr], ?_, ?_, r3.mono fun x y => K.rd_mono (fun _ _ => rfl) (fun b hb => ?_) q x y⟩
        · have := h.occ l _ rr rr.blk hf hr (by simp [AObj.occ, hreal]); cases fr; exact ⟨.inr this.2, this.1⟩; exact ⟨this.2, this.1⟩
        · rw [← e1']; exact hcell.app.2.app.1
        · cases fr
          · exact Rel.N_any hb
          · exact Rel.f_any hb
      · omega
    · trivial
  · rename_i nm p i
    split
    · rename_i T T' kh ki xs hole ho
      obtain ⟨rn, rr, ri, A, c, hn, hr, hi, rfl, hc, hsl⟩ := hx
      obtain ⟨_, _, hfl, hrow⟩ := h.inner ho hr hi
      obtain ⟨f, b, hf, hb, _⟩ := h.obj ho (by simp)
      rw [hr] at hb; cases hb
      refine ⟨A, c, by rw [hrow.1], by have := hrow.1; omega, ?_⟩
      by_cases hz : (ith xs i).length = 0
      · exact .inl hz
      obtain ⟨hreal, mid, hcell, hm⟩ := IB.row_cells hrow (by omega)
      right
      rcases hsl with ⟨_, rfl, _⟩ | ⟨h1, _⟩
      · refine ⟨ri.blk, ri.base, mid, rfl, ?_, hcell, hm.mono fun x y => K.rd_flat ki _ _ hfl⟩
        have := h.occ p _ rr ri.blk hf hr (deep_inn (List.mem_of_getElem? hi) hreal)
        exact ⟨this.2, this.1⟩
      · have := hrow.1; omega
    · trivial
  · exact base _ hx

theorem borD_any (h : Rel C s β a w) {x : AV} {v : Value} (hx : x.R w (C.N s.heap β w) (C.fresh s.heap β w) β v) : (x.borD s.heap).R w (Any C w) (AnyF C w) β v := by
  unfold AV.borD
  split
  · rename_i nm n sz
    split
    rotate_left
    · trivial
    rename_i p hpl
    split
    rotate_left
    · trivial
    rename_i T T' kh ki xs hob
    obtain ⟨rr, A, c, hr, hn, hz, rfl, hc, hsl⟩ := hx
    obtain ⟨f, r0, rp, T1, T1', kh1, ki1, xs1, hole1, k1, k2, k3, k4, k5, k6, k7, k8, k9, k10, kR⟩ := h.pool hpl
    rw [hob] at k1; cases k1
    rw [hr] at k3; cases k3
    obtain ⟨q1, q2, q3, q4, q5, q6, q7, q8⟩ := kR
    refine ⟨A, c, by rw [← q1, k8, hn], by rw [← q1, k8, hn]; exact hc, ?_⟩
    by_cases hx0 : xs.length = 0
    · exact .inl hx0
    right
    rcases hsl with ⟨hreal, rfl, _⟩ | ⟨h1, _⟩
    rotate_left
    · omega
    rw [← k10] at hreal
    simp only [hreal, if_true] at q8
    obtain ⟨pre, mid, post, hh, hp, hm, hcap⟩ := q8
    have ho := fun b hb => h.occ p _ rp b k2 k4 hb
    refine ⟨rp.blk, rp.base, mid, by simp [Bl.addr, k5, k6], ?_, by rw [← hp]; exact cellsAt_block hh, drows_rows q4 q5 hm (fun ri hri hreal => ?_) q7⟩
    · have := ho _ (deep_out hreal); exact ⟨this.2, this.1⟩
    · have := ho _ (deep_inn hri hreal); exact ⟨this.2, this.1⟩
  · rename_i nm off n sz
    split
    rotate_left
    · trivial
    rename_i p hpl
    split
    rotate_left
    · trivial
    rename_i T T' kh ki xs hob
    obtain ⟨rr, A, c, hr, hz, rfl, hc, hoff, hsl⟩ := hx
    obtain ⟨f, r0, rp, T1, T1', kh1, ki1, xs1, hole1, k1, k2, k3, k4, k5, k6, k7, k8, k9, k10, kR⟩ := h.pool hpl
    rw [hob] at k1; cases k1
    rw [hr] at k3; cases k3
    obtain ⟨q1, q2, q3, q4, q5, q6, q7, q8⟩ := kR
    have hlen : ((xs.drop off).take n).length = n := by simp; omega
    refine ⟨A, c, by rw [hlen], by rw [hlen]; omega, ?_⟩
    by_cases hx0 : n = 0
    · exact .inl (by rw [hlen]; exact hx0)
    right
    rcases hsl with ⟨hreal, rfl, _⟩ | ⟨h1, _⟩
    rotate_left
    · omega
    rw [← k10] at hreal
    simp only [hreal, if_true] at q8
    obtain ⟨pre, mid, post, hh, hp, hm, hcap⟩ := q8
    have ho := fun b hb => h.occ p _ rp b k2 k4 hb
    have hrow := drows_rows (Nf := AnyF C w) q4 q5 hm (fun ri hri hreal => by have := ho _ (deep_inn hri hreal); exact ⟨this.2, this.1⟩) q7
    have hcell : cellsAt w rp.blk rp.base mid := by rw [← hp]; exact cellsAt_block hh
    have hsplit : xs = xs.take off ++ ((xs.drop off).take n ++ (xs.drop off).drop n) := by
      rw [List.take_append_drop, List.take_append_drop]
    rw [hsplit] at hrow
    obtain ⟨m1, m2, rfl, r1, r2⟩ := rows.of_app hrow
    obtain ⟨m3, m4, rfl, r3, r4⟩ := rows.of_app r2
    have e1 := rows.len (fun x c => K.rd_len w _ _ x c) r1
    have e1' : m1.length = off * rp.sz := by rw [e1, q2]; congr 1; simp; omega
    refine ⟨rp.blk, rp.base + off * rp.sz, m3, by simp [Bl.addr, k5, k6, k7], ?_, ?_, r3⟩
    · have := ho _ (deep_out hreal); exact ⟨this.2, this.1⟩
    · rw [← e1']; exact hcell.app.2.app.1
  · exact bor_any h hx

theorem toD_sound {k : K} {x : AV} {v : Value} {N Nf : Nat → Prop} (hx : x.R w N Nf β v) {y : k.den} {f : Bool} (e : AV.toD k x = some (y, f)) : k.rd w (if f then Nf else N) y [v] := by
  unfold AV.toD at e
  split at e
  · rename_i k' x' fr
    split at e
    · rename_i hk
      subst hk
      simp only [Option.some.injEq, Prod.mk.injEq] at e
      obtain ⟨rfl, rfl⟩ := e
      have hx : K.rd w (if fr then Nf else N) _ x' [v] := hx
      cases fr
      · by_cases hf : k'.flat = true
        · exact K.rd_flat _ _ _ hf hx
        · simp only [hf, Bool.or_false]; simpa [hf] using hx
      · simpa using hx
    · simp at e
  · split at e
    · simp only [Option.some.injEq, Prod.mk.injEq] at e
      obtain ⟨rfl, rfl⟩ := e
      have hx : v = _ := hx
      subst hx
      exact ⟨none, 0, rfl, Nat.le_refl _, .inl rfl⟩
    · simp at e
  · simp at e

end

section
variable {P : Program} {C : Cx} {s : AS} {β : List Bl} {a : Act} {w : World} {R : Type} {k : TV → Option R} {r : R}

theorem Makes.value {o : Oper} {x : Sem Value} (he : execOp a.eval o = (do pure (.value (← x)))) (h : Makes P C s β w x k r) :
    ∃ tv v, k tv = some r ∧ (execOp a.eval o).run P w = .ok (.value v) w ∧ tv.R w (C.N s.heap β w) (C.fresh s.heap β w) β v := by
  obtain ⟨tv, v, h1, h2, h3⟩ := h
  exact ⟨tv, v, h1, by rw [he]; simp only [Sem.run_bind, h2, Result.andThen_ok, Sem.run_pure], h3⟩

theorem abuiltin_sound (h : Rel C s β a w) {o : Oper} {c : Call} (ho : o.op = .call c) (e : abuiltin P s c k = some r) :
    ∃ tv v, k tv = some r ∧ (execOp a.eval o).run P w = .ok (.value v) w ∧ tv.R w (C.N s.heap β w) (C.fresh s.heap β w) β v := by
  unfold abuiltin at e
  split at e
  · rename_i hcal
    split at e
    · rename_i x t hargs htypes
      split at e
      · rename_i et v ht hx
        split at e
        · rename_i n hn
          obtain ⟨A, len, cap, hv, rfl, _⟩ := alen_sound h (h.ev1 hx) hn
          refine ⟨_, _, e, ?_, rfl⟩
          have ha : c.args = #[x] := by rw [← Array.toArray_toList (xs := c.args), hargs]
          have hat : c.argTypes = #[t] := by rw [← Array.toArray_toList (xs := c.argTypes), htypes]
          simp only [execOp, ho, resolve, hcal, ha, hat, List.map_toArray, List.map_cons, List.map_nil, Sem.run_bind, Sem.run_pure, Result.andThen_ok, invoke, builtin, Builtin.len_, hv]
          simp [run_underlying' (aelem_some ht), goInt]
        · simp at e
      · rename_i l ht hx
        split at e
        · rename_i kt vt ki vi es fr hu hob
          obtain ⟨rr, hr, hv⟩ := h.ev1 hx
          obtain ⟨f, r0, g1, g2, l0, ck, g3, g4, g5⟩ := h.obj hob (by simp)
          rw [hr] at g2; cases g2
          refine ⟨_, _, e, ?_, rfl⟩
          have ha : c.args = #[x] := by rw [← Array.toArray_toList (xs := c.args), hargs]
          have hat : c.argTypes = #[t] := by rw [← Array.toArray_toList (xs := c.argTypes), htypes]
          simp only [execOp, ho, resolve, hcal, ha, hat, List.map_toArray, List.map_cons, List.map_nil, Sem.run_bind, Sem.run_pure, Result.andThen_ok, invoke, builtin, Builtin.len_, hv]
          simp [run_underlying' hu, goInt, getObj, Sem.run_bind, g3, Result.andThen, ← All2.len g5, Sem.run]
        · simp at e
      · simp at e
    · simp at e
  · rename_i hcal
    split at e
    · rename_i q n l hl
      have := intsOf_sound h hl
      refine ⟨_, _, e, ?_, rfl⟩
      simp only [execOp, ho, resolve, hcal, Sem.run_bind, Sem.run_pure, Result.andThen_ok, invoke, builtin, Builtin.max_]
      have e2 : (c.args.map a.eval).toList = (Value.int q n) :: l.map fun p => .int p.1 p.2 := by simpa using this
      rw [e2]
      simp only [max_fold, Result.andThen_ok]
    · simp at e
  · rename_i hcal
    split at e
    · rename_i q n l hl
      have := intsOf_sound h hl
      refine ⟨_, _, e, ?_, rfl⟩
      simp only [execOp, ho, resolve, hcal, Sem.run_bind, Sem.run_pure, Result.andThen_ok, invoke, builtin, Builtin.min_]
      have e2 : (c.args.map a.eval).toList = (Value.int q n) :: l.map fun p => .int p.1 p.2 := by simpa using this
      rw [e2]
      simp only [min_fold, Result.andThen_ok]
    · simp at e
  · simp at e

theorem aslice3_sound (h : Rel C s β a w) {t et : TypeId} (ht : aelem P t = some et) {l : Nat} {v : Value} (hv : (AV.vf l).R w (C.N s.heap β w) (C.fresh s.heap β w) β v) {hb mb : Int} {q1 q2 : IntKind}
    (e : aslice3 P s.heap et l hb mb k = some r) : Makes P C s β w (Instr.sliceAt t v none (some (.int q1 hb)) (some (.int q2 mb))) k r := by
  unfold aslice3 at e
  split at e
  rotate_left
  · simp at e
  rename_i n hn
  obtain ⟨h0, e1⟩ := gd_some e; clear e
  obtain ⟨h1, e2⟩ := gd_some e1; clear e1
  obtain ⟨h2, e⟩ := gd_some e2; clear e2
  split at e
  rotate_left
  · simp at e
  rename_i inf hinf
  obtain ⟨A, len, cap, hve, rfl, hcap⟩ := alen_sound h hv hn
  obtain ⟨rr, A', c', hr, ev, hle, hsl⟩ := hv
  rw [hve] at ev
  simp only [Value.slice.injEq] at ev
  obtain ⟨rfl, rfl, rfl⟩ := ev
  have g1 : (Instr.sliceBound (.int q2 mb) cap .slice3Acap).run P w = .ok mb.toNat w := by
    unfold Instr.sliceBound
    simp only [Sem.run_bind, asIntOf, Sem.run_pure, Result.andThen_ok]
    rw [if_pos ⟨by omega, by omega⟩]; rfl
  have g2 : (Instr.sliceBound (.int q1 hb) mb.toNat .slice3B).run P w = .ok hb.toNat w := by
    unfold Instr.sliceBound
    simp only [Sem.run_bind, asIntOf, Sem.run_pure, Result.andThen_ok]
    rw [if_pos ⟨by omega, by omega⟩]; rfl
  refine ⟨_, .slice (if mb.toNat = 0 then A else A.map (·.add (0 * inf.size))) (hb.toNat - 0) (mb.toNat - 0), e, ?_, ?_⟩
  · rw [hve]
    unfold Instr.sliceAt Instr.slice Instr.sliceBounds
    simp [Sem.run_bind, run_underlying' (aelem_some ht), Result.andThen_ok, g1, g2, run_sizeOf hinf, Sem.run_pure]
  · refine ⟨rr, _, _, hr, rfl, by omega, by omega, ?_⟩
    rcases hsl with ⟨hreal, rfl, hcc⟩ | ⟨hz1, hz2⟩
    · by_cases hcl : mb.toNat = 0
      · right; omega
      · left; refine ⟨hreal, ?_, by omega⟩
        rw [if_neg hcl]; simp [Bl.addr, addr_add]
    · right; omega

theorem anil_equal {N Nf : Nat → Prop} (d : Nat) {t : TypeId} {p q : AV} {u v : Value} {b : Bool} (hb : anilEq P t p q = some b) (hu : p.R w N Nf β u) (hv : q.R w N Nf β v) : (Op.equalIn (d + 1) t u v).run P w = .ok b w := by
  unfold anilEq at hb
  split at hb
  · rename_i pt hpt
    split at hb
    · cases hb; have hu : u = _ := hu; have hv : v = _ := hv; subst hu; subst hv; simp [Op.equalIn, run_underlying' hpt]
    · cases hb; obtain ⟨rr, _, hu⟩ := hu; have hv : v = _ := hv; subst hu; subst hv; simp [Op.equalIn, run_underlying' hpt, Bl.addr]
    · cases hb; obtain ⟨_, _, _, hu, _⟩ := hu; have hv : v = _ := hv; subst hu; subst hv; simp [Op.equalIn, run_underlying' hpt]
    · cases hb; obtain ⟨rr, _, hu⟩ := hu; have hv : v = _ := hv; subst hu; subst hv; simp [Op.equalIn, run_underlying' hpt, Bl.addr]
    · cases hb; obtain ⟨_, _, _, hu, _⟩ := hu; have hv : v = _ := hv; simp only [List.cons.injEq, and_true] at hu; subst hu; subst hv; simp [Op.equalIn, run_underlying' hpt]
    · simp at hb
  · rename_i hpt
    split at hb
    · cases hb; have hu : u = _ := hu; have hv : v = _ := hv; subst hu; subst hv; simp [Op.equalIn, run_underlying' hpt]
    · cases hb; obtain ⟨_, hu, _⟩ := hu; have hv : v = _ := hv; subst hu; subst hv; simp [Op.equalIn, run_underlying' hpt]
    · simp at hb
  · rename_i hpt
    split at hb
    · cases hb; obtain ⟨_, hu, _⟩ := hu; have hv : v = _ := hv; subst hu; subst hv; simp [Op.equalIn, run_underlying' hpt]
    · simp at hb
  · rename_i hpt
    split at hb
    · rename_i a _ b _
      cases hb
      have hu : u = .bool a := by simpa [AV.R, K.rd] using hu
      have hv : v = .bool b := by simpa [AV.R, K.rd] using hv
      subst hu; subst hv
      simp only [Op.equalIn, Sem.run_bind, run_underlying' hpt, Result.andThen_ok, Sem.run_pure]
      cases a <;> cases b <;> rfl
    · simp at hb
  · rename_i hpt
    split at hb
    · rename_i a _ b _
      cases hb
      have hu : u = .string a := by simpa [AV.R, K.rd] using hu
      have hv : v = .string b := by simpa [AV.R, K.rd] using hv
      subst hu; subst hv
      simp only [Op.equalIn, Sem.run_bind, run_underlying' hpt, Result.andThen_ok, Sem.run_pure]
      rfl
    · simp at hb
  · simp at hb

theorem anil_shape {N Nf : Nat → Prop} {t : TypeId} {p q : AV} {u v : Value} {b : Bool} (hb : anilEq P t p q = some b) (hu : p.R w N Nf β u) (hv : q.R w N Nf β v) :
    (∃ A, u = .pointer A) ∧ v = .pointer none ∨ (u = .nilFunc ∨ ∃ f a c, u = .func f a c) ∧ v = .nilFunc ∨ (∃ s z, u = .iface s z) ∧ v = .nilIface ∨ (∃ p q, u = .bool p ∧ v = .bool q) ∨ (∃ p q, u = .string p ∧ v = .string q ∧ b = (p == q)) := by
  unfold anilEq at hb
  split at hb
  · split at hb
    · exact .inl ⟨⟨_, hu⟩, hv⟩
    · obtain ⟨_, _, hu⟩ := hu; exact .inl ⟨⟨_, hu⟩, hv⟩
    · obtain ⟨_, _, _, hu, _⟩ := hu; exact .inl ⟨⟨_, hu⟩, hv⟩
    · obtain ⟨_, _, hu⟩ := hu; exact .inl ⟨⟨_, hu⟩, hv⟩
    · obtain ⟨_, _, _, hu, _⟩ := hu; simp only [List.cons.injEq, and_true] at hu; exact .inl ⟨⟨_, hu⟩, hv⟩
    · simp at hb
  · split at hb
    · exact .inr (.inl ⟨.inl hu, hv⟩)
    · obtain ⟨_, hu, _⟩ := hu; exact .inr (.inl ⟨.inr ⟨_, _, _, hu⟩, hv⟩)
    · simp at hb
  · split at hb
    · obtain ⟨_, hu, _⟩ := hu; exact .inr (.inr (.inl ⟨⟨_, _, hu⟩, hv⟩))
    · simp at hb
  · split at hb
    · rename_i a _ b _
      have hu : u = .bool a := by simpa [AV.R, K.rd] using hu
      have hv : v = .bool b := by simpa [AV.R, K.rd] using hv
      exact .inr (.inr (.inr (.inl ⟨_, _, hu, hv⟩)))
    · simp at hb
  · split at hb
    · rename_i a _ b _
      have hu : u = .string a := by simpa [AV.R, K.rd] using hu
      have hv : v = .string b := by simpa [AV.R, K.rd] using hv
      exact .inr (.inr (.inr (.inr ⟨_, _, hu, hv, by simpa [streq] using hb.symm⟩)))
    · simp at hb
  · simp at hb

theorem str_beq (p q : ByteArray) : (p.toList == q.toList) = (p == q) := by
  rw [ByteArray.toList_eq, ByteArray.toList_eq]
  obtain ⟨p⟩ := p
  obtain ⟨q⟩ := q
  show (p.toList == q.toList) = (p == q)
  rw [Bool.eq_iff_iff, beq_iff_eq, beq_iff_eq]
  exact ⟨fun h => Array.toList_inj.1 h, fun h => by rw [h]⟩

theorem anil_run {N Nf : Nat → Prop} {t : TypeId} {x y : Operand} {p q : AV} {u v : Value} {b : Bool} (hb : anilEq P t p q = some b) (hu : p.R w N Nf β u) (hv : q.R w N Nf β v) :
    (eqGuard .eql t x y u v).run P w = .ok () w ∧ (eqGuard .neq t x y u v).run P w = .ok () w ∧ (binOp .eql t u v).run P w = .ok (.bool b) w ∧ (binOp .neq t u v).run P w = .ok (.bool (!b)) w := by
  have he : (Op.equal t u v).run P w = .ok b w := anil_equal 9999 hb hu hv
  rcases anil_shape hb hu hv with ⟨⟨A, rfl⟩, rfl⟩ | ⟨rfl | ⟨f, a, c, rfl⟩, rfl⟩ | ⟨⟨s, z, rfl⟩, rfl⟩ | ⟨p, q, rfl, rfl⟩ | ⟨p, q, rfl, rfl, rfl⟩ <;> simp [eqGuard, binOp, he, Op.stringOp, str_beq]

theorem anil_runO {N Nf : Nat → Prop} {t : TypeId} {x y : Operand} {p q : AV} {ρ : Operand → Value} (hρ : ∀ c, ρ (.const c) = c) {b : Bool} (hb : anilEqO P t p q y = some b) (hu : p.R w N Nf β (ρ x)) (hv : q.R w N Nf β (ρ y)) :
    (eqGuard .eql t x y (ρ x) (ρ y)).run P w = .ok () w ∧ (eqGuard .neq t x y (ρ x) (ρ y)).run P w = .ok () w ∧ (binOp .eql t (ρ x) (ρ y)).run P w = .ok (.bool b) w ∧ (binOp .neq t (ρ x) (ρ y)).run P w = .ok (.bool (!b)) w := by
  unfold anilEqO at hb
  split at hb
  · split at hb
    · rename_i ms hpt
      simp only [Option.some.injEq] at hb
      subst hb
      have hu : ρ x = .nilIface := hu
      have he : (Op.equal t .nilIface .nilIface).run P w = .ok true w := by
        have key : ∀ d : Nat, (Op.equalIn (d + 1) t .nilIface .nilIface).run P w = .ok true w := fun d => by simp only [Op.equalIn, Sem.run_bind, run_underlying' hpt, Result.andThen_ok, Sem.run_pure]
        exact key 9999
      rw [hu, hρ]
      refine ⟨?_, ?_, ?_, ?_⟩
      · cases x <;> rfl
      · cases x <;> rfl
      · show (do pure (.bool (← Op.equal t .nilIface .nilIface)) : Sem Value).run P w = _
        simp only [Sem.run_bind, he, Result.andThen_ok, Sem.run_pure]
      · show (do pure (.bool (!(← Op.equal t .nilIface .nilIface))) : Sem Value).run P w = _
        simp only [Sem.run_bind, he, Result.andThen_ok, Sem.run_pure]
    · simp at hb
  · exact anil_run hb hu hv

set_option maxHeartbeats 1000000 in
theorem aval_sound (h : Rel C s β a w) {o : Oper} (e : aval P s o k = some r) :
    ∃ tv v, k tv = some r ∧ (execOp a.eval o).run P w = .ok (.value v) w ∧ tv.R w (C.N s.heap β w) (C.fresh s.heap β w) β v := by
  unfold aval at e
  split at e
  · -- move
    rename_i x ho
    exact ⟨_, _, e, by simp [execOp, ho], h.ev x⟩
  · rename_i x ho
    exact ⟨_, _, e, by simp [execOp, ho], h.ev x⟩
  · -- pick
    rename_i c x y ho
    split at e
    · rename_i t f hc
      have hrun : (execOp a.eval o).run P w = .ok (.value (if t = true then a.eval x else a.eval y)) w := by
        simp [execOp, ho, h.evBool hc, asBool]
      split at e
      · rename_i b1 f1 b2 f2 hx hy
        refine ⟨_, _, e, hrun, ?_⟩
        cases t <;> simp [TV.R, AV.R, K.rd, h.evBool hx, h.evBool hy]
      · cases t
        · exact ⟨_, _, e, hrun, h.ev y⟩
        · exact ⟨_, _, e, hrun, h.ev x⟩
    · simp at e
  · -- load
    rename_i t x ho
    split at e
    · rename_i v hx
      exact (aload_sound h (h.ev1 hx) e).value (by simp [execOp, ho])
    · simp at e
  · -- nilCheck
    rename_i x ho
    split at e
    · rename_i l off hx
      have := h.ev1 hx
      obtain ⟨rr, hr, hv⟩ := this
      exact ⟨_, _, e, by simp [execOp, ho, hv, Bl.addr], rr, hr, rfl⟩
    · rename_i f c hx
      have := h.ev1 hx
      obtain ⟨bs, hv, hb⟩ := this
      exact ⟨_, _, e, by simp [execOp, ho, hv], bs, rfl, hb⟩
    · rename_i q x' off fr hx
      have := h.ev1 hx
      obtain ⟨b, o', es, hv, h1⟩ := this
      exact ⟨_, _, e, by simp [execOp, ho, hv], b, o', es, rfl, h1⟩
    · rename_i q x' fr hx
      have := h.ev1 hx
      obtain ⟨b, o', es, hv, h1⟩ := this
      simp only [List.cons.injEq, and_true] at hv
      exact ⟨_, _, e, by simp [execOp, ho, hv], b, o', es, rfl, h1⟩
    · simp at e
  · -- binOp
    rename_i op t x y ty ho
    split at e
    · rename_i kx m f ky n g hx hy
      refine (abin_sound (C := C) (s := s) (β := β) (w := w) (P := P) (t := t) (x := x) (y := y) e).value ?_
      simp only [execOp, ho, h.evInt hx, h.evInt hy]
    · rename_i xs ys hx hy
      have hvx := h.ev x
      rw [hx] at hvx
      have hvy := h.ev y
      rw [hy] at hvy
      split at e
      · simp at e
      rename_i hgd
      have hgd : P.eqGuardType P.depth t = false := by simpa using hgd
      split at e
      · split at e
        · rename_i b hb
          have := aeq_sound (w := w) 8 9992 t _ _ _ _ b hb hvx hvy
          obtain ⟨us, hu, _⟩ := hvx
          obtain ⟨vs, hv, _⟩ := hvy
          rw [hu, hv] at this
          refine ⟨_, .bool b, e, ?_, by simp [TV.R, AV.R, K.rd]⟩
          simp only [execOp, ho, hu, hv, Sem.run_bind, run_eqGuard_agg w _ _ _ _ _ _ hgd, Result.andThen_ok, run_eql_struct, run_neq_struct]
          rw [show (10000 : Nat) = 8 + 9992 from rfl, this]
          rfl
        · simp at e
      · split at e
        · rename_i b hb
          have := aeq_sound (w := w) 8 9992 t _ _ _ _ b hb hvx hvy
          obtain ⟨us, hu, _⟩ := hvx
          obtain ⟨vs, hv, _⟩ := hvy
          rw [hu, hv] at this
          refine ⟨_, .bool (!b), e, ?_, by simp [TV.R, AV.R, K.rd]⟩
          simp only [execOp, ho, hu, hv, Sem.run_bind, run_eqGuard_agg w _ _ _ _ _ _ hgd, Result.andThen_ok, run_eql_struct, run_neq_struct]
          rw [show (10000 : Nat) = 8 + 9992 from rfl, this]
          rfl
        · simp at e
      · simp at e
    · rename_i u v hx hy
      have hu := h.ev1 hx
      have hv := h.ev1 hy
      split at e
      rotate_left
      · simp at e
      rename_i b hb
      have key := anil_runO (x := x) (y := y) (w := w) (ρ := a.eval) (fun _ => rfl) hb hu hv
      obtain ⟨k1, k2, k3, k4⟩ := key
      split at e
      · exact ⟨_, .bool b, e, by simp only [execOp, ho, Sem.run_bind, k1, Result.andThen_ok, k3, Sem.run_pure], by simp [TV.R, AV.R, K.rd]⟩
      · exact ⟨_, .bool (!b), e, by simp only [execOp, ho, Sem.run_bind, k2, Result.andThen_ok, k4, Sem.run_pure], by simp [TV.R, AV.R, K.rd]⟩
      · simp at e
    · simp at e
  · -- unOp
    rename_i op t x ho
    split at e
    · rename_i b f hx
      refine ⟨_, _, e, by simp [execOp, ho, h.evBool hx, Op.unary], rfl⟩
    · rename_i q n f hx
      refine ⟨_, _, e, by simp [execOp, ho, h.evInt hx, Op.unary, Op.intArith]; rfl, ?_⟩
      simp [TV.R, AV.R, K.rd]
    · simp at e
  · -- convert
    rename_i src dst x ho
    split at e
    · rename_i d kd q n f hs hd hx
      refine ⟨_, _, e, ?_, rfl⟩
      simp only [execOp, ho, h.evInt hx, convert, Sem.run_bind, run_underlying' hs, run_underlying' hd, Result.andThen_ok, Conv.intToInt, Sem.run_pure]
    · rename_i el av hs hd hx
      split at e
      rotate_left
      · simp at e
      rename_i he
      split at e
      rotate_left
      · simp at e
      rename_i xs f hbo
      have hr := toD_sound (bor_any h (h.ev1 hx)) hbo
      obtain ⟨A, c, hv, hle, hA⟩ := hr
      simp only [List.cons.injEq, and_true] at hv
      refine ⟨_, .string (strOfNums xs), e, ?_, rfl⟩
      have hrun : (convert src dst (a.eval x)).run P w = .ok (.string (strOfNums xs)) w := by
        rw [hv]
        by_cases hz : xs.length = 0
        · have hxs : xs = [] := List.eq_nil_of_length_eq_zero hz
          subst hxs
          cases A with
          | none => exact run_convert_bytes_nil w src el hs he _ c dst hd
          | some A =>
            obtain ⟨b, o, i⟩ := A
            have hl : (loadCells ⟨b, o, i⟩ 0).run P w = .ok (([] : List Int).map (Value.int .u8)).toArray w := by simp [loadCells, loadCellsFrom]
            show (convert src dst (.slice (some ⟨b, o, i⟩) 0 c)).run P w = _
            rw [run_convert_bytes_string w src dst el _ 0 c hs he hd, run_bytesToString w _ 0 c [] hl]
            rfl
        · rcases hA with hA | ⟨b, off, es, rfl, _, hc, hrow⟩
          · exact absurd hA hz
          · refine run_convert_bytes_arg w src el hs he b off _ c xs rfl (fun i hi => ?_) dst hd
            have hes : ∀ (l : List Int) (es : List Value), rows (K.rd w (if f then AnyF C w else Any C w) (.int .u8)) l es → es = l.map (Value.int .u8) := by
              intro l
              induction l with
              | nil => intro es h; exact h
              | cons x l ih =>
                rintro _ ⟨c1, c2, rfl, h1, h2⟩
                have h1 : c1 = [.int .u8 x] := h1
                rw [h1, ih _ h2]; rfl
            have := hes xs es hrow
            subst this
            exact hc i _ (by simp [List.getElem?_eq_getElem hi, List.getD])
      simp only [execOp, ho, Sem.run_bind, hrun, Result.andThen_ok, Sem.run_pure]
    · simp at e
  · -- makeFunc
    rename_i f first captured ho
    split at e
    · rename_i ls hf hl
      have := capsOf_sound h hl
      have hf' : first = #[] := by rw [← Array.toArray_toList (xs := first), hf]
      refine ⟨_, .func (.func f) #[] (captured.toList.map a.eval).toArray, e, ?_, captured.toList.map a.eval, rfl, this⟩
      simp [execOp, ho, hf', Instr.makeFunc]
      apply Array.ext' ; simp
    · simp at e
  · -- extract
    rename_i x i ho
    split at e
    · rename_i cs hx
      split at e
      · rename_i agg c hc
        split at e
        · rename_i tv ht
          have hv := h.ev x
          rw [hx] at hv
          obtain ⟨vs, hv, hr⟩ := hv
          obtain ⟨v, hvi, hcv⟩ := hr.get hc
          refine ⟨_, v, e, by simp [execOp, ho, hv, Instr.extract, hvi], ?_⟩
          cases agg with
          | true =>
            simp only [shapeTV, Option.some.injEq] at ht; subst ht
            obtain ⟨ws, rfl, hw⟩ := hcv
            exact ⟨ws, rfl, hw⟩
          | false =>
            match c, ht, hcv with
            | [x0], ht, hcv => simp only [shapeTV, Option.some.injEq] at ht; subst ht; exact hcv
        · simp at e
      · simp at e
    · simp at e
  · -- fieldAddr
    rename_i t x i ho
    split at e
    · rename_i f v hf hx
      exact (afieldAddr_sound hf (h.ev1 hx) e).value (by simp [execOp, ho])
    · simp at e
  · -- field
    rename_i t x i ho
    split at e
    · rename_i f cs hf hx
      obtain ⟨fs, hu, hfi⟩ := afields_some hf
      obtain ⟨d, inf, tv, hd, hi, hl, ht, hk⟩ := cut_some e
      have hv := h.ev x
      rw [hx] at hv
      obtain ⟨vs, hv, hr⟩ := hv
      obtain ⟨v, hvr, hcase⟩ := shapeTV_R ht ((hr.drop f.offset).take inf.size)
      refine ⟨tv, v, hk, ?_, hvr⟩
      have hlen := ((hr.drop f.offset).take inf.size).len
      rw [hl] at hlen
      simp only [execOp, ho, Instr.field, hv, Sem.run_bind, run_underlying' hu, Result.andThen_ok, hfi, asAgg, Sem.run_pure, part, run_isAgg hd]
      by_cases hg : isAggT P f.type = true
      · simp only [hg, if_true] at hcase ⊢
        simp only [Sem.run_bind, run_sizeOf hi, Result.andThen_ok, Sem.run_pure, hcase]
        congr 3
        rw [List.extract_toArray, List.extract_eq_take_drop]
        simp
      · simp only [hg] at hcase ⊢
        have : vs[f.offset]? = some v := by
          have e0 : ((vs.drop f.offset).take inf.size)[0]? = some v := by rw [hcase]; rfl
          rw [List.getElem?_take] at e0
          split at e0
          · simpa using e0
          · simp at e0
        simp [this]
    · simp at e
  · -- indexAddr
    rename_i t x i ho
    split at e
    · rename_i et v q n f ht hx hi
      refine (aindexAddr_sound h ht (h.ev1 hx) (q := q) e).value ?_
      simp only [execOp, ho, h.evInt hi]
    · simp at e
  · -- slice
    rename_i t x lo hi ho
    split at e
    · rename_i et v ht hx
      split at e
      · rename_i n z hn hz
        split at e
        · rename_i l u hl hu
          obtain ⟨inf, hinf, hs, e⟩ := szOk_some e
          obtain ⟨z1, z2, z3⟩ := asz_sound h hz
          have := aslice_sound h ht hinf (h.ev1 hx) hn (lo := lo.map a.eval) (hi := hi.map a.eval)
            (abound_sound h hl)
            (abound_sound h hu)
            (fun q xs fr hq => by rw [hs]; exact z1 q xs fr hq) (fun m hm b hb => by rw [hs]; exact z2 m hm b hb) (fun m n y hq => by rw [hs]; exact z3 m n y hq) e
          exact this.value (by simp [execOp, ho])
        · simp at e
      · simp at e
    · rename_i q y off fr hae hx
      obtain ⟨b, o', es, hv, hN, hc, hr⟩ := h.ev1 hx
      have := asliceA_sound h hN hc hr e
      rw [← hv] at this
      exact this.value (by simp [execOp, ho])
    · rename_i q y fr hae hx
      obtain ⟨b, o', es, hv, hN, hc, hr⟩ := h.ev1 hx
      simp only [List.cons.injEq, and_true] at hv
      have := asliceA_sound h hN hc hr e
      rw [Nat.add_zero, ← hv] at this
      exact this.value (by simp [execOp, ho])
    · simp at e
  · -- slice3
    rename_i t x hi mx ho
    split at e
    rotate_left
    · simp at e
    rename_i et l q1 hb f1 q2 mb f2 ht hx hhi hmx
    exact (aslice3_sound h ht (h.ev1 hx) (q1 := q1) (q2 := q2) e).value (by simp [execOp, ho, h.evInt hhi, h.evInt hmx])
  · -- build
    rename_i t parts ho
    split at e
    · rename_i z ps hz hp
      split at e
      · rename_i cs hc
        unfold azero at hz
        split at hz
        · rename_i inf hi
          split at hz
          · rename_i zv hzv
            simp only [Option.some.injEq] at hz; subst hz
            unfold placesOf at hp
            split at hp
            · rename_i fs hu
              have hzc : All2 (AV.R w (C.N s.heap β w) (C.fresh s.heap β w) β) (constTV zv).cells zv.cells.toList := by
                unfold constTV
                split
                · rename_i cs; simpa [TV.cells, Value.cells] using All2_const cs.toList
                · rename_i hne
                  have hvc : zv.cells = #[zv] := by
                    unfold Value.cells
                    split
                    · exact absurd rfl (hne _)
                    · rfl
                  rw [hvc]; exact ⟨constAV_R _, trivial⟩
              obtain ⟨res, hres, hr⟩ := afill_sound (All2.parts h parts.toList) hzc hc
              have hb : P.built t (parts.map fun (x : Nat × Operand) => (x.1, a.eval x.2)).toList = some res := by
                unfold Program.built
                simp only [hi, hu, hzv, hp]
                rw [← hres]; rw [Array.toList_map]
              refine ⟨_, .agg res, e, ?_, res.toList, by simp, hr⟩
              simp only [execOp, ho]
              have := run_build w t (parts.map fun (x : Nat × Operand) => (x.1, a.eval x.2)) res hb
              simp only [Sem.run_bind, this, Result.andThen_ok, Sem.run_pure]
            · simp at hp
          · simp at hz
        · simp at hz
      · simp at e
    · simp at e
  · -- call
    rename_i c ho
    exact abuiltin_sound h ho e
  · -- makeInterface
    rename_i t x ho
    split at e
    · simp at e
    · rename_i d av hne hd hx
      have hx := h.ev1 hx
      have hrun : (execOp a.eval o).run P w = .ok (.value (.iface t (a.eval x))) w := by
        simp only [execOp, ho, Instr.makeInterface, Sem.run_bind, run_underlying' hd, Result.andThen_ok]
        cases d <;> first | rfl | exact absurd hd (hne _)
      split at e
      · simp at e
      · exact ⟨_, _, e, hrun, _, rfl, hx⟩
    · simp at e
  · simp at e
end
end Go.Proofs.AM
end

section
namespace Go.Proofs.AM
open Go Go.RowKit

@[reducible] def PDen : List (Bool × K) → Type
  | [] => Unit
  | p :: ps => p.2.den × PDen ps

def argsR (w : World) (N : Nat → Prop) : (ps : List (Bool × K)) → PDen ps → List Value → Prop
  | [], _, vs => vs = []
  | p :: ps, x, vs => ∃ v vs', vs = v :: vs' ∧ valR w N p x.1 v ∧ argsR w N ps x.2 vs'

def resR (w : World) (N : Nat → Prop) : (rs : List (Bool × K)) → PDen rs → Value → Prop
  | [p], y, v => valR w N p y.1 v
  | rs, y, v => ∃ vs : List Value, v = .tuple vs.toArray ∧ argsR w N rs y vs

structure CS where
  ps : List (Bool × K)
  rs : List (Bool × K)
  share : Bool
  model : PDen ps → Option (PDen rs)

def CS.Sound (P : Program) (f : FuncId) (c : CS) : Prop :=
  (∀ args w, (callFunc f args).run P w = .ok (.enter f args) w) ∧
  ∀ (x : PDen c.ps) (y : PDen c.rs), c.model x = some y → ∀ (w : World) (N : Nat → Prop) (args : List Value), (∀ b, N b → b < w.heap.size) → argsR w N c.ps x args →
    Calls P f args.toArray w fun e w' => ∃ v, e = .returned v ∧ Grew w w' ∧
      resR w' (fun b => (c.share = true ∧ N b) ∨ (w.heap.size ≤ b ∧ b < w'.heap.size)) c.rs y v

structure Grown (h h' : List (Bool × AObj)) (β β' : List Bl) : Prop where
  bx : ∃ δ, β' = β ++ δ
  hl : h.length ≤ h'.length
  hp : ∀ (l : Nat) (o : AObj), l < h.length → h'[l]? = some (false, o) → h[l]? = some (false, o)
  hm : ∀ (l : Nat), h[l]? = some (true, .mark) → h'[l]? = some (true, .mark)

structure HD where
  X : Type
  Y : Type
  dec : List (Bool × AObj) → List TV → Option X
  model : X → Option Y
  out : List (Bool × AObj) → List TV → X → Y → List (Bool × AObj) × TV
  push : Bool := false
  pushes : push = true → ∀ h ts x y, ∃ δ, (out h ts x y).1 = h ++ δ := by intro h; cases h
  two : push = true → (∀ h h' ts x, (∀ l, hat h l = .dead ∨ hat h' l = hat h l) → dec h ts = some x → dec h' ts = some x) ∧
    (∀ h h' ts x y, h'.length = h.length → ∃ δ t, out h ts x y = (h ++ δ, t) ∧ out h' ts x y = (h' ++ δ, t)) := by intro h; cases h
  touch : Option (List (Bool × AObj) → List TV → List Nat) := none
  touches : ∀ f, touch = some f → ∀ h ts x y, dec h ts = some x → h.length ≤ (out h ts x y).1.length ∧ ∀ l, l < h.length → l ∉ f h ts → (out h ts x y).1[l]? = h[l]? := by intro f h; cases h

def HD.Sound (P : Program) (f : FuncId) (c : HD) : Prop :=
  (∀ args w, (callFunc f args).run P w = .ok (.enter f args) w) ∧
  ∀ (x : c.X) (y : c.Y), c.model x = some y → ∀ (C : Cx) (s : AS) (β : List Bl) (a : Act) (w : World) (ts : List TV) (vs : List Value), Rel C s β a w →
    All2 (TV.R w (C.N s.heap β w) (C.fresh s.heap β w) β) ts vs → c.dec s.heap ts = some x →
    Calls P f vs.toArray w fun e w' => ∃ v β', e = .returned v ∧ Rel C { s with heap := (c.out s.heap ts x y).1 } β' a w' ∧
      (c.out s.heap ts x y).2.R w' (C.N (c.out s.heap ts x y).1 β' w') (C.fresh (c.out s.heap ts x y).1 β' w') β' v ∧ Grown s.heap (c.out s.heap ts x y).1 β β'

abbrev Handler := (R : Type) → List (Bool × AObj) → List TV → (List (Bool × AObj) → TV → Option R) → Option R

structure ID where
  run : List (Nat × Handler) → Handler

def lookY : List (Nat × Handler) → Nat → Option Handler
  | [], _ => none
  | p :: r, l => if p.1 = l then some p.2 else lookY r l

def CallPost (C : Cx) (s : AS) (β : List Bl) (a : Act) {R : Type} (k : List (Bool × AObj) → TV → Option R) (r : R) (e : Ending) (w' : World) : Prop :=
  ∃ (v : Value) (h' : List (Bool × AObj)) (tv : TV) (β' : List Bl), e = .returned v ∧ k h' tv = some r ∧ Rel C { s with heap := h' } β' a w' ∧ tv.R w' (C.N h' β' w') (C.fresh h' β' w') β' v ∧ Grown s.heap h' β β'

structure CxLe (C C' : Cx) : Prop where
  w0 : C'.w0 = C.w0
  N0 : C'.N0 = C.N0
  F : C'.F = C.F
  frs : ∀ f ∈ C.frs, f ∈ C'.frs

def HOK (P : Program) (C0 : Cx) (β0 : List Bl) (l : Nat) (H : Handler) : Prop :=
  ∃ rr, β0[l]? = some rr ∧ ∀ (C : Cx), CxLe C0 C → ∀ (R : Type) (ts : List TV) (k : List (Bool × AObj) → TV → Option R) (r : R) (s : AS), H R s.heap ts k = some r →
    ∀ (β : List Bl) (a : Act) (w : World) (vs : List Value), (∃ δ, β = β0 ++ δ) → Rel C s β a w → All2 (TV.R w (C.N s.heap β w) (C.fresh s.heap β w) β) ts vs →
      YieldAt Fence.wide 0 P rr.blk vs.toArray w (CallPost C s β a k r)

def YOK (P : Program) (C : Cx) (β : List Bl) (Y : List (Nat × Handler)) : Prop := ∀ l H, lookY Y l = some H → HOK P C β l H

def Cx.push (C : Cx) (s : AS) (a : Act) : Cx := { C with frs := ⟨s.tmps, s.marks, a⟩ :: C.frs }

def ID.Sound (P : Program) (f : FuncId) (d : ID) : Prop :=
  (∀ args w, (callFunc f args).run P w = .ok (.enter f args) w) ∧
  ∀ (C : Cx) (β : List Bl) (Y : List (Nat × Handler)) (R : Type) (ts : List TV) (k : List (Bool × AObj) → TV → Option R) (r : R) (s : AS), d.run Y R s.heap ts k = some r →
    ∀ (a : Act) (w : World) (vs : List Value), YOK P (C.push s a) β Y → Rel C s β a w → All2 (TV.R w (C.N s.heap β w) (C.fresh s.heap β w) β) ts vs → Calls P f vs.toArray w (CallPost C s β a k r)

theorem CxLe.refl (C : Cx) : CxLe C C := ⟨rfl, rfl, rfl, fun _ h => h⟩
theorem CxLe.push (C : Cx) (s : AS) (a : Act) : CxLe C (C.push s a) := ⟨rfl, rfl, rfl, fun f hf => List.mem_cons_of_mem _ hf⟩
theorem CxLe.trans {A B C : Cx} (h : CxLe A B) (k : CxLe B C) : CxLe A C := ⟨k.w0.trans h.w0, k.N0.trans h.N0, k.F.trans h.F, fun f hf => k.frs f (h.frs f hf)⟩

theorem YOK.mono {P : Program} {C C' : Cx} {β β' : List Bl} {Y : List (Nat × Handler)} (h : YOK P C β Y) (hC : CxLe C C') (hβ : ∃ δ, β' = β ++ δ) : YOK P C' β' Y := by
  obtain ⟨δ, rfl⟩ := hβ
  intro l H hl
  obtain ⟨rr, hr, hh⟩ := h l H hl
  refine ⟨rr, get_app hr, fun C2 hC2 R ts k r s e β2 a w vs hb hrel hts => ?_⟩
  obtain ⟨δ', rfl⟩ := hb
  exact hh C2 (hC.trans hC2) R ts k r s e _ a w vs ⟨δ ++ δ', by simp⟩ hrel hts

theorem YOK.nil (P : Program) (C : Cx) (β : List Bl) : YOK P C β [] := fun l H h => by simp [lookY] at h

def BytesAt (P : Program) (f : FuncId) (t e : TypeId) : Prop := P.underlying t = some (.slice e) ∧ ∀ args w, (callFunc f args).run P w = ((Extern.BytealgMakeNoZero.makeNoZero #[] #[t] args).run P w).andThen fun v w' => .ok (.value v) w'

structure Env where
  cs : FuncId → Option CS
  hd : FuncId → Option HD
  imm : List Nat := []
  inl : FuncId → Option ID := fun _ => none
  yl : List (Nat × Handler) := []
  mnz : FuncId → Option (TypeId × TypeId) := fun _ => none
  deep : List TypeId := []

def Env.im (Γ : Env) (o : Oper) : Bool := match o.dst with
  | some d => Γ.imm.contains d
  | none => false

structure Env.Sound (P : Program) (Γ : Env) : Prop where
  cs : ∀ f c, Γ.cs f = some c → c.Sound P f
  hd : ∀ f c, Γ.hd f = some c → c.Sound P f
  inl : ∀ f d, Γ.inl f = some d → d.Sound P f
  mnz : ∀ f t e, Γ.mnz f = some (t, e) → BytesAt P f t e

def AS.push (s : AS) (o : AObj) : AS := { s with heap := s.heap ++ [(true, o)] }
def AS.upd (s : AS) (l : Nat) (o : AObj) : AS := { s with heap := s.heap.set l (true, o) }

def adec (h : Heap) (B : Bool) : (ps : List (Bool × K)) → List TV → Option (PDen ps × Bool)
  | [], [] => some ((), true)
  | p :: ps, t :: ts =>
    match (match p.1, t with
      | true, .agg cs => K.of h B p.2 cs
      | false, .one a => K.of h B p.2 [a]
      | true, .dat q y f => if e : q = p.2 then some (e ▸ y, f || q.flat) else none
      | _, _ => none), adec h B ps ts with
    | some (x, f), some (y, g) => some ((x, y), f && g)
    | _, _ => none
  | _, _ => none

def acomps (fr : Bool) : (rs : List (Bool × K)) → PDen rs → List (Bool × List AV)
  | [], _ => []
  | p :: rs, y => (p.1, p.2.cells fr y.1) :: acomps fr rs y.2

def ares (fr : Bool) (rs : List (Bool × K)) (y : PDen rs) : Option TV :=
  match acomps fr rs y with
  | [(agg, c)] => shapeTV agg c
  | l => some (.tup l)

section
variable {R : Type}

def acall (Γ : Env) (s : AS) (f : FuncId) (args : List TV) (k : TV → Option R) : Option R :=
  match Γ.cs f with
  | none => none
  | some c => match adec s.heap (!c.share) c.ps args with
    | none => none
    | some (x, fr) => (c.model x).bind fun y => match ares (!c.share || fr) c.rs y with
      | some tv => k tv
      | none => none
end

def acallH {R : Type} (c : HD) (s : AS) (args : List TV) (k : AS → TV → Option R) : Option R :=
  match c.dec s.heap args with
  | none => none
  | some x => (c.model x).bind fun y => k { s with heap := (c.out s.heap args x y).1 } (c.out s.heap args x y).2

section
variable {C : Cx} {s : AS} {β : List Bl} {a : Act} {w : World}

def Dec (C : Cx) (s : AS) (β : List Bl) (w : World) (B f : Bool) (b : Nat) : Prop :=
  match B, f with
  | true, true => AnyF C w b
  | true, false => Any C w b
  | false, true => C.fresh s.heap β w b
  | false, false => C.N s.heap β w b

theorem Dec.weak {B f g : Bool} {b : Nat} (h : Dec C s β w B f b) (hg : g = true → f = true) : Dec C s β w B g b := by
  cases B
  · cases f
    · cases g
      · exact h
      · simp at hg
    · cases g
      · exact Cx.fresh_N h
      · exact h
  · cases f
    · cases g
      · exact h
      · simp at hg
    · cases g
      · exact AnyF.any h
      · exact h

theorem ofs_sound (h : Rel C s β a w) (B : Bool) : ∀ (k : K) (l : List AV) (vs : List Value) (x : k.den) (f : Bool) (l2 : List AV), All2 (AV.R w (C.N s.heap β w) (C.fresh s.heap β w) β) l vs →
    K.ofs s.heap B k l = some (x, f, l2) → ∃ v1 v2, vs = v1 ++ v2 ∧ k.rd w (Dec C s β w B f) x v1 ∧ All2 (AV.R w (C.N s.heap β w) (C.fresh s.heap β w) β) l2 v2 := by
  have cell : ∀ (k : K) (l : List AV) (vs : List Value) (x : k.den) (f : Bool) (l2 : List AV), All2 (AV.R w (C.N s.heap β w) (C.fresh s.heap β w) β) l vs →
      (match l with
        | a :: l => match AV.toD k (if B then a.borD s.heap else a) with
          | some (x, f) => some (x, f, l)
          | none => none
        | [] => none) = some (x, f, l2) → ∃ v1 v2, vs = v1 ++ v2 ∧ k.rd w (Dec C s β w B f) x v1 ∧ All2 (AV.R w (C.N s.heap β w) (C.fresh s.heap β w) β) l2 v2 := by
    intro k l vs x f l2 hl e
    match l, vs, hl with
    | [], [], _ => simp at e
    | y :: l, v :: vs, hl =>
      dsimp only at e
      split at e
      · rename_i x' f' ht
        simp only [Option.some.injEq, Prod.mk.injEq] at e
        obtain ⟨rfl, rfl, rfl⟩ := e
        refine ⟨[v], vs, rfl, ?_, hl.2⟩
        cases B
        · have := toD_sound hl.1 ht
          refine K.rd_mono (fun _ _ => rfl) (fun b hb => ?_) _ _ _ this
          cases f' <;> exact hb
        · have := toD_sound (borD_any h hl.1) ht
          refine K.rd_mono (fun _ _ => rfl) (fun b hb => ?_) _ _ _ this
          cases f' <;> exact hb
      · simp at e
  intro k
  induction k with
  | ar n k _ =>
    intro l vs x f l2 hl e
    simp [K.ofs] at e
  | pair p q ihp ihq =>
    intro l vs x f l2 hl e
    unfold K.ofs at e
    split at e
    · rename_i y1 f1 l1 h1
      split at e
      · rename_i y2 f2 l3 h2
        simp only [Option.some.injEq, Prod.mk.injEq] at e
        obtain ⟨rfl, rfl, rfl⟩ := e
        obtain ⟨v1, v2, rfl, r1, a1⟩ := ihp l vs y1 f1 l1 hl h1
        obtain ⟨v3, v4, rfl, r2, a2⟩ := ihq l1 v2 y2 f2 l3 a1 h2
        refine ⟨v1 ++ v3, v4, by simp, ⟨v1, v3, rfl, ?_, ?_⟩, a2⟩
        · exact K.rd_mono (fun _ _ => rfl) (fun b hb => hb.weak (by simp; exact fun h _ => h)) _ _ _ r1
        · exact K.rd_mono (fun _ _ => rfl) (fun b hb => hb.weak (by simp)) _ _ _ r2
      · simp at e
    · simp at e
  | unit =>
    intro l vs x f l2 hl e
    unfold K.ofs at e
    simp only [Option.some.injEq, Prod.mk.injEq] at e
    obtain ⟨_, rfl, rfl⟩ := e
    exact ⟨[], vs, rfl, rfl, hl⟩
  | rp k ih =>
    intro l vs x f l2 hl e
    match l, vs, hl with
    | [], [], _ => simp [K.ofs] at e
    | y :: l, v :: vs, hl =>
      have hv := hl.1
      unfold K.ofs at e
      split at e
      · rename_i k' x' off fr
        split at e
        · rename_i hk
          subst hk
          split at e
          · rename_i ho
            subst ho
            simp only [Option.some.injEq, Prod.mk.injEq] at e
            obtain ⟨rfl, rfl, rfl⟩ := e
            obtain ⟨b, o, es, rfl, h1, h2, h3⟩ := hv
            have hd : ∀ b, (if fr then C.fresh s.heap β w else C.N s.heap β w) b → Dec C s β w B fr b := fun b hb => by
              cases B <;> cases fr <;> first | exact hb | exact Rel.N_any hb | exact Rel.f_any hb | exact hb.2 | exact hb.2.1
            exact ⟨[_], vs, rfl, ⟨b, o, es, rfl, hd _ h1, h2, K.rd_mono (fun _ _ => rfl) hd _ _ _ h3⟩, hl.2⟩
          · simp at e
        · simp at e
      · rename_i k' x' fr
        split at e
        · rename_i hk
          subst hk
          simp only [Option.some.injEq, Prod.mk.injEq] at e
          obtain ⟨rfl, rfl, rfl⟩ := e
          have hd : ∀ b, (if fr then C.fresh s.heap β w else C.N s.heap β w) b → Dec C s β w B fr b := fun b hb => by
            cases B <;> cases fr <;> first | exact hb | exact Rel.N_any hb | exact Rel.f_any hb | exact hb.2 | exact hb.2.1
          exact ⟨[v], vs, rfl, K.rd_mono (fun _ _ => rfl) hd _ _ _ hv, hl.2⟩
        · simp at e
      · rename_i m off
        split at e
        · rename_i T cs ho
          split at e
          · rename_i x' f' l3 hk
            simp only [Option.some.injEq, Prod.mk.injEq] at e
            obtain ⟨rfl, rfl, rfl⟩ := e
            obtain ⟨rr, hr, rfl⟩ := hv
            obtain ⟨ff, b, hf, hb, us, hh, hz, hc⟩ := h.obj ho (by simp)
            rw [hr] at hb; cases hb
            obtain ⟨v1, v2, e12, r1, _⟩ := ih _ _ _ _ _ (hc.drop off) hk
            have hcell : cellsAt w rr.blk rr.base us := by
              rw [hz]; exact cellsAt_block (pre := []) (post := []) (by simpa using hh)
            have hcd := hcell.drop off
            rw [e12] at hcd
            refine ⟨[_], vs, rfl, ⟨rr.blk, rr.base + off, v1, rfl, ?_, hcd.app.1, r1⟩, hl.2⟩
            have ho := h.occ m _ rr rr.blk hf hr (by simp [AObj.occ])
            cases f'
            · exact ⟨.inr ho.2, ho.1⟩
            · exact ⟨ho.2, ho.1⟩
          · simp at e
        · simp at e
      · simp at e
  | int k => intro l vs x f l2 hl e; exact cell _ l vs x f l2 hl (by cases l <;> (unfold K.ofs at e; exact e))
  | bool => intro l vs x f l2 hl e; exact cell _ l vs x f l2 hl (by cases l <;> (unfold K.ofs at e; exact e))
  | str => intro l vs x f l2 hl e; exact cell _ l vs x f l2 hl (by cases l <;> (unfold K.ofs at e; exact e))
  | sl k _ => intro l vs x f l2 hl e; exact cell _ l vs x f l2 hl (by cases l <;> (unfold K.ofs at e; exact e))

theorem of_sound (h : Rel C s β a w) {B : Bool} {k : K} {l : List AV} {vs : List Value} {x : k.den} {f : Bool} (hl : All2 (AV.R w (C.N s.heap β w) (C.fresh s.heap β w) β) l vs)
    (e : K.of s.heap B k l = some (x, f)) : k.rd w (Dec C s β w B f) x vs := by
  unfold K.of at e
  split at e
  · rename_i x' f' he
    simp only [Option.some.injEq, Prod.mk.injEq] at e
    obtain ⟨rfl, rfl⟩ := e
    obtain ⟨v1, v2, rfl, r, hn⟩ := ofs_sound h B k l vs _ _ _ hl he
    match v2, hn with
    | [], _ => simpa using r
  · simp at e

theorem argsR_mono {N N' : Nat → Prop} {w' : World} (hb : ∀ b, N b → w'.heap[b]? = w.heap[b]?) (hN : ∀ b, N b → N' b) : ∀ {ps : List (Bool × K)} {x : PDen ps} {vs : List Value}, argsR w N ps x vs → argsR w' N' ps x vs
  | [], _, _, h => h
  | p :: ps, x, _, ⟨v, vs', e, h1, h2⟩ => ⟨v, vs', e, valR_mono hb hN h1, argsR_mono hb hN h2⟩

theorem dat_dec {q : K} {x : q.den} {fr : Bool} {v : Value} (B : Bool) (h : (TV.dat q x fr).R w (C.N s.heap β w) (C.fresh s.heap β w) β v) : ∃ us : List Value, v = .agg us.toArray ∧ q.rd w (Dec C s β w B (fr || q.flat)) x us := by
  obtain ⟨us, e, hr⟩ := TV.dat_R.1 h
  refine ⟨us, e, ?_⟩
  cases hf : q.flat with
  | true => exact K.rd_flat _ _ _ hf hr
  | false =>
    rw [Bool.or_false]
    refine K.rd_mono (fun _ _ => rfl) (fun b hb => ?_) _ _ _ hr
    cases B <;> cases fr <;> first | exact hb | exact Rel.N_any hb | exact Rel.f_any hb

theorem adec_sound (h : Rel C s β a w) {B : Bool} : ∀ {ps : List (Bool × K)} {ts : List TV} {vs : List Value} {x : PDen ps} {f : Bool},
    All2 (TV.R w (C.N s.heap β w) (C.fresh s.heap β w) β) ts vs → adec s.heap B ps ts = some (x, f) → argsR w (Dec C s β w B f) ps x vs
  | [], [], [], x, f, _, e => rfl
  | p :: ps, t :: ts, v :: vs, x, f, hl, e => by
    unfold adec at e
    split at e
    · rename_i x1 f1 y1 g1 h1 h2
      simp only [Option.some.injEq, Prod.mk.injEq] at e
      obtain ⟨rfl, rfl⟩ := e
      refine ⟨v, vs, rfl, ?_, argsR_mono (fun _ _ => rfl) (fun b hb => hb.weak (by simp)) (adec_sound h hl.2 h2)⟩
      have hv := hl.1
      obtain ⟨agg, k⟩ := p
      split at h1
      · rename_i cs ha
        dsimp only at ha
        subst ha
        obtain ⟨us, rfl, hu⟩ := hv
        exact ⟨us, rfl, K.rd_mono (fun _ _ => rfl) (fun b hb => hb.weak (by simp; exact fun h _ => h)) _ _ _ (of_sound h hu h1)⟩
      · rename_i y ha
        dsimp only at ha
        subst ha
        have := of_sound h (l := [y]) (vs := [v]) ⟨hv, trivial⟩ h1
        exact K.rd_mono (fun _ _ => rfl) (fun b hb => hb.weak (by simp; exact fun h _ => h)) _ _ _ this
      · rename_i q y fr ha
        split at h1
        rotate_left
        · simp at h1
        rename_i hq
        dsimp only at hq ha
        subst hq
        subst ha
        simp only [Option.some.injEq, Prod.mk.injEq] at h1
        obtain ⟨rfl, rfl⟩ := h1
        obtain ⟨us, rfl, hr⟩ := dat_dec (C := C) B hv
        exact ⟨us, rfl, K.rd_mono (fun _ _ => rfl) (fun b hb => hb.weak (by simp only [Bool.and_eq_true]; exact fun h => h.1)) _ _ _ hr⟩
      · simp at h1
    · simp at e
  | [], _ :: _, _, _, _, _, e => by simp [adec] at e
  | _ :: _, [], _, _, _, _, e => by simp [adec] at e
  | [], [], _ :: _, _, _, h, _ => h.elim
  | _ :: _, _ :: _, [], _, _, h, _ => h.elim

theorem acomps_R {N Nf : Nat → Prop} {fr : Bool} : ∀ {rs : List (Bool × K)} {y : PDen rs} {vs : List Value}, argsR w (if fr then Nf else N) rs y vs → All2 (compR w N Nf β) (acomps fr rs y) vs
  | [], _, vs, h => by simp [argsR] at h; subst h; trivial
  | p :: rs, y, _, ⟨v, vs', rfl, h1, h2⟩ => by
    refine ⟨?_, acomps_R h2⟩
    obtain ⟨agg, k⟩ := p
    cases agg
    · have h1 : k.rd w _ y.1 [v] := h1
      have hc := K.cells_R (N := N) (Nf := Nf) (β := β) fr k _ _ h1
      show compR w N Nf β (false, k.cells fr y.1) v
      match hk : k.cells fr y.1, hc with
      | [c], hc => exact hc.1
    · obtain ⟨cs, rfl, h1⟩ := h1
      exact ⟨cs, rfl, K.cells_R fr k _ _ h1⟩

theorem ares_R {N Nf : Nat → Prop} {fr : Bool} {rs : List (Bool × K)} {y : PDen rs} {v : Value} (h : resR w (if fr then Nf else N) rs y v) {tv : TV} (e : ares fr rs y = some tv) : tv.R w N Nf β v := by
  have comp : ∀ (c : Bool × List AV) (tv : TV), shapeTV c.1 c.2 = some tv → compR w N Nf β c v → tv.R w N Nf β v := by
    rintro ⟨agg, c⟩ tv ht hc
    cases agg with
    | true =>
      simp only [shapeTV, Option.some.injEq] at ht; subst ht
      exact hc
    | false =>
      match c, ht, hc with
      | [x0], ht, hc => simp only [shapeTV, Option.some.injEq] at ht; subst ht; exact hc
  match rs, y, h, e with
  | [], y, h, e =>
    obtain ⟨vs, rfl, h1⟩ := h
    simp only [ares, acomps, Option.some.injEq] at e
    subst e
    exact ⟨vs, rfl, acomps_R (β := β) (rs := []) (y := y) h1⟩
  | [p], y, h, e =>
    have hc := acomps_R (β := β) (rs := [p]) (y := y) (vs := [v]) (N := N) (Nf := Nf) (fr := fr) ⟨v, [], rfl, h, rfl⟩
    simp only [ares, acomps] at e
    exact comp (p.1, p.2.cells fr y.1) tv e hc.1
  | p :: q :: rs, y, h, e =>
    obtain ⟨vs, rfl, h1⟩ := h
    simp only [ares, acomps, Option.some.injEq] at e
    subst e
    exact ⟨vs, rfl, acomps_R (β := β) (rs := p :: q :: rs) (y := y) h1⟩
end

section
variable {P : Program} {C : Cx} {s : AS} {β : List Bl} {a : Act} {w : World} {R : Type} {k : TV → Option R} {r : R}

theorem acall_sound (h : Rel C s β a w) {Γ : Env} (hΓ : Γ.Sound P) {f : FuncId} {ts : List TV} {vs : List Value} (hvs : All2 (TV.R w (C.N s.heap β w) (C.fresh s.heap β w) β) ts vs) (e : acall Γ s f ts k = some r) :
    (∀ args w, (callFunc f args).run P w = .ok (.enter f args) w) ∧
    Calls P f vs.toArray w fun e w' => ∃ v tv, e = .returned v ∧ k tv = some r ∧ Grew w w' ∧ tv.R w' (C.N s.heap β w') (C.fresh s.heap β w') β v := by
  unfold acall at e
  split at e
  · simp at e
  rename_i c hc
  split at e
  · simp at e
  rename_i x fr hx
  obtain ⟨hcall, hs⟩ := hΓ.cs f c hc
  refine ⟨hcall, ?_⟩
  obtain ⟨y, hy, e⟩ := Option.bind_eq_some_iff.1 e
  split at e
  · rename_i tv ht
    have hargs := adec_sound h hvs hx
    refine (hs x y hy w _ vs (fun b hb => ?_) hargs).mono ?_
    · revert hb; cases c.share <;> cases fr <;> intro hb <;> first | exact hb | exact Rel.N_any hb | exact Rel.f_any hb | exact hb.2 | exact hb.2.1
    · rintro e' w' ⟨v, rfl, hg, hr⟩
      refine ⟨v, tv, rfl, e, hg, ?_⟩
      have hsub : ∀ b, b < w.heap.size → Free s.heap β b → Free s.heap β b := fun b _ h => h
      have hnew : ∀ b, w.heap.size ≤ b → Free s.heap β b := fun b hb l o rr h1 h2 hx' => by
        have := (h.occ l o rr b h1 h2 hx').1; omega
      have hk := h.keep.size
      refine ares_R ?_ ht
      have mono : ∀ {M M' : Nat → Prop}, (∀ b, M b → M' b) → resR w' M c.rs y v → resR w' M' c.rs y v := by
        intro M M' hM hr
        unfold resR at hr ⊢
        split at hr
        · exact valR_mono (fun _ _ => rfl) hM hr
        · obtain ⟨us, e1, h1⟩ := hr
          exact ⟨us, e1, argsR_mono (fun _ _ => rfl) hM h1⟩
      refine mono (fun b hb => ?_) hr
      cases hsh : c.share with
      | false =>
        rw [hsh] at hb
        simp only [Bool.false_eq_true, false_and, false_or] at hb
        simp only [Bool.not_false, Bool.true_or, if_true]
        exact ⟨by omega, hb.2, hnew b hb.1⟩
      | true =>
        rw [hsh] at hb
        simp only [Bool.not_true, true_and, Bool.false_or] at hb ⊢
        cases fr
        · simp only [Bool.false_eq_true, if_false]
          rcases hb with hb | hb
          · exact ⟨hb.1, by have := hb.2.1; have := hg.size; omega, hb.2.2⟩
          · exact ⟨.inr (by omega), hb.2, hnew b hb.1⟩
        · simp only [if_true]
          rcases hb with hb | hb
          · exact ⟨hb.1, by have := hb.2.1; have := hg.size; omega, hb.2.2⟩
          · exact ⟨by omega, hb.2, hnew b hb.1⟩
  · simp at e
end
end Go.Proofs.AM
end

section
namespace Go.Proofs.AM
open Go Go.RowKit

structure Ext (d : Nat → Prop) (s s' : AS) (β β' : List Bl) : Prop where
  bx : ∃ δ, β' = β ++ δ
  tm : ∀ i, ¬ d i → s'.tmps[i]? = s.tmps[i]?
  tl : s'.tmps.length = s.tmps.length
  hl : s.heap.length ≤ s'.heap.length
  hp : ∀ (l : Nat) (o : AObj), l < s.heap.length → s'.heap[l]? = some (false, o) → s.heap[l]? = some (false, o)
  mks : ∃ ms, s'.marks = ms ++ s.marks
  hm : ∀ (l : Nat), s.heap[l]? = some (true, .mark) → s'.heap[l]? = some (true, .mark)

theorem Ext.refl (d : Nat → Prop) (s : AS) (β : List Bl) : Ext d s s β β := ⟨⟨[], by simp⟩, fun _ _ => rfl, rfl, Nat.le_refl _, fun _ _ _ h => h, ⟨[], rfl⟩, fun _ h => h⟩
theorem Ext.trans {d : Nat → Prop} {s s' s'' : AS} {β β' β'' : List Bl} (h : Ext d s s' β β') (k : Ext d s' s'' β' β'') : Ext d s s'' β β'' := by
  obtain ⟨δ, rfl⟩ := h.bx
  obtain ⟨δ', rfl⟩ := k.bx
  exact ⟨⟨δ ++ δ', by simp⟩, fun i hi => (k.tm i hi).trans (h.tm i hi), k.tl.trans h.tl, Nat.le_trans h.hl k.hl, fun l o hl ho => h.hp l o hl (k.hp l o (Nat.lt_of_lt_of_le hl h.hl) ho), by
    obtain ⟨ms, e⟩ := h.mks
    obtain ⟨ns, e'⟩ := k.mks
    exact ⟨ns ++ ms, by rw [e', e, List.append_assoc]⟩, fun l hl => k.hm l (h.hm l hl)⟩
theorem Ext.mono {d d' : Nat → Prop} {s s' : AS} {β β' : List Bl} (h : Ext d s s' β β') (hd : ∀ i, d i → d' i) : Ext d' s s' β β' :=
  ⟨h.bx, fun i hi => h.tm i (fun x => hi (hd i x)), h.tl, h.hl, h.hp, h.mks, h.hm⟩

theorem Ext.put (s : AS) (β : List Bl) (d : Option Nat) (t : TV) : Ext (fun i => d = some i) s (s.put d t) β β := by
  cases d with
  | none => exact Ext.refl _ _ _
  | some j =>
    refine ⟨⟨[], by simp⟩, fun i hi => ?_, by simp [AS.put], Nat.le_refl _, fun _ _ _ h => h, ⟨[], rfl⟩, fun _ h => h⟩
    simp only [AS.put]
    rw [List.getElem?_set_ne (fun e => hi (by rw [e]))]

theorem Ext.push (d : Nat → Prop) (s : AS) (β : List Bl) (o : AObj) (r : Bl) : Ext d s (s.push o) β (β ++ [r]) :=
  ⟨⟨[r], rfl⟩, fun _ _ => rfl, rfl, by simp [AS.push], fun l o' hl ho => by
    simp only [AS.push] at ho
    rwa [List.getElem?_append_left hl] at ho, ⟨[], rfl⟩, fun l hl => get_app hl⟩

theorem Ext.upd (d : Nat → Prop) (s : AS) (β : List Bl) (l : Nat) (o : AObj) (hne : s.heap[l]? ≠ some (true, .mark)) : Ext d s (s.upd l o) β β :=
  ⟨⟨[], by simp⟩, fun _ _ => rfl, rfl, by simp [AS.upd], fun m o' hm ho => by
    simp only [AS.upd] at ho
    by_cases e : l = m
    · subst e; simp [hm] at ho
    · rwa [List.getElem?_set_ne e] at ho, ⟨[], rfl⟩, fun m hm => by
    simp only [AS.upd]
    rw [List.getElem?_set_ne (fun e => hne (by rw [e]; exact hm))]; exact hm⟩

def FW (F : Fence) : Prop := F = Fence.wide ∨ ∃ l, F = Fence.wide.inRound l

theorem FW.fn {F : Fence} (h : FW F) (f : FuncId) : F.fn f := by
  rcases h with rfl | ⟨l, rfl⟩ <;> exact trivial

theorem FW.depth {F : Fence} (h : FW F) : F.depth = none := by
  rcases h with rfl | ⟨l, rfl⟩ <;> rfl

theorem FW.calls {F : Fence} (h : FW F) {n : Nat} {P : Program} {f : FuncId} {args : Array Value} {w : World} {R : Ending → World → Prop} (hc : Calls P f args w R) : CallsIn F n P f args w R := by
  rcases h with rfl | ⟨l, rfl⟩
  · exact callsIn_wide.2 hc
  · exact CallsIn.inRound l (callsIn_wide.2 hc)

section
variable {P : Program} {F : Fence} {n : Nat} {o : Oper} {a : Act} {w w' : World} {K : Act → World → Prop} {Q : Exit → Act → World → Prop}

theorem wpIn_value (hF : FW F) (hd : ∀ c, o.op ≠ .defer c) {v : Value} (hr : (execOp a.eval o).run P w = .ok (.value v) w') (hK : K (a.put o.dst v) w') : o.wpIn F n P a w K Q := by
  refine ⟨fun f _ => hF.fn f, ?_⟩
  rw [Oper.semAt_eq _ _ _ hd, hr]
  exact hK

theorem wpIn_skip' (hF : FW F) (hd : ∀ c, o.op ≠ .defer c) (hr : (execOp a.eval o).run P w = .ok .skip w') (hK : K (a.put o.dst undef) w') : o.wpIn F n P a w K Q := by
  refine ⟨fun f _ => hF.fn f, ?_⟩
  rw [Oper.semAt_eq _ _ _ hd, hr]
  exact hK

theorem wpIn_enter (hF : FW F) (hd : ∀ c, o.op ≠ .defer c) {f : FuncId} {args : Array Value} (hr : (execOp a.eval o).run P w = .ok (.enter f args) w') {S : Ending → World → Prop}
    (hc : Calls P f args w' S) (hK : ∀ e w'', S e w'' → ∃ v, e = .returned v ∧ K (a.put o.dst v) w'') : o.wpIn F n P a w K Q := by
  refine ⟨fun f _ => hF.fn f, ?_⟩
  rw [Oper.semAt_eq _ _ _ hd, hr]
  refine ⟨fun h => by simp [hF.depth] at h, hF.calls (hc.mono fun e w'' h => ?_)⟩
  obtain ⟨v, rfl, hk⟩ := hK e w'' h
  exact hk

theorem wpIn_round (hF : FW F) (hd : ∀ c, o.op ≠ .defer c) {l : Nat} {f : FuncId} {tmps : Array Value} {assign body : Code} (hr : (execOp a.eval o).run P w = .ok (.round l f tmps assign body) w') {S : Ending → World → Prop}
    (hc : RoundIn F (n - 1) P l f tmps assign body w' S) (hK : ∀ e w'', S e w'' → ∃ v, e = .returned v ∧ K (a.put o.dst v) w'') : o.wpIn F n P a w K Q := by
  refine ⟨fun f _ => hF.fn f, ?_⟩
  rw [Oper.semAt_eq _ _ _ hd, hr]
  refine ⟨fun h => by simp [hF.depth] at h, hc.mono fun e w'' h => ?_⟩
  obtain ⟨v, rfl, hk⟩ := hK e w'' h
  exact hk
end

theorem K.rd_one {w : World} {N : Nat → Prop} : ∀ (k : K) (x : k.den) (cs : List Value), k.rd w N x cs → ∀ u ∈ cs, u.oneCell' = true
  | .int k, n, cs, h => by simp [K.rd] at h; subst h; simp [Value.oneCell']
  | .bool, b, cs, h => by simp [K.rd] at h; subst h; simp [Value.oneCell']
  | .str, s, cs, h => by simp [K.rd] at h; subst h; simp [Value.oneCell']
  | .unit, _, cs, h => by simp [K.rd] at h; subst h; simp
  | .pair a b, x, cs, h => by
    obtain ⟨c, d, rfl, h1, h2⟩ := h
    intro u hu
    rcases List.mem_append.1 hu with hu | hu
    · exact K.rd_one a _ _ h1 u hu
    · exact K.rd_one b _ _ h2 u hu
  | .sl k, xs, cs, h => by obtain ⟨A, c, rfl, _⟩ := h; simp [Value.oneCell']
  | .rp k, xs, cs, h => by obtain ⟨A, c, _, rfl, _⟩ := h; simp [Value.oneCell']
  | .ar n k, xs, cs, h => by
    have go : ∀ (ys : List k.den) (cs : List Value), rows (k.rd w N) ys cs → ∀ u ∈ cs, u.oneCell' = true := by
      intro ys
      induction ys with
      | nil => intro cs h u hu; have h : cs = [] := h; subst h; simp at hu
      | cons y ys ih =>
        rintro cs ⟨c, d, rfl, h1, h2⟩ u hu
        rcases List.mem_append.1 hu with hu | hu
        · exact K.rd_one k _ _ h1 u hu
        · exact ih d h2 u hu
    exact go xs cs h.2

theorem rows.one {w : World} {N : Nat → Prop} {k : K} : ∀ {xs : List k.den} {cs : List Value}, rows (k.rd w N) xs cs → ∀ u ∈ cs, u.oneCell' = true
  | [], _, h => by simp [rows] at h; subst h; simp
  | x :: xs, _, ⟨c, d, rfl, h1, h2⟩ => by
    intro u hu
    rcases List.mem_append.1 hu with hu | hu
    · exact K.rd_one k _ _ h1 u hu
    · exact rows.one h2 u hu

theorem All2.one {w : World} {N Nf : Nat → Prop} {β : List Bl} : ∀ {cs : List AV} {vs : List Value}, All2 (AV.R w N Nf β) cs vs → (cs.all AV.isOne = true) → ∀ u ∈ vs, u.oneCell' = true
  | [], [], _, _ => by simp
  | c :: cs, v :: vs, h, ho => by
    simp at ho
    intro u hu
    rcases List.mem_cons.1 hu with rfl | hu
    · exact (AV.R_one h.1 ho.1).2
    · exact All2.one h.2 (by simpa using ho.2) u hu
  | [], _ :: _, h, _ => h.elim
  | _ :: _, [], h, _ => h.elim

section
variable {P : Program} {C : Cx} {s : AS} {β : List Bl} {a : Act} {w : World}

theorem src_cells0 (h : Rel C s β a w) {x : AV} {v : Value} (hx : x.R w (C.N s.heap β w) (C.fresh s.heap β w) β v) {q : K} {ys : List q.den} {fr : Bool} (e : x.bor s.heap = .dat (.sl q) ys fr) :
    ∃ A c news, v = .slice A ys.length c ∧ ys.length ≤ c ∧ rows (q.rd w (if fr then C.fresh s.heap β w else C.N s.heap β w)) ys news ∧ (ys.length = 0 ∨ ∃ b o, A = some ⟨b, o, none⟩ ∧ cellsAt w b o news) := by
  unfold AV.bor at e
  split at e
  · rename_i l
    split at e
    · rename_i T q' xs fr' ho
      simp only [AV.dat.injEq, K.sl.injEq] at e
      obtain ⟨rfl, e2, rfl⟩ := e
      obtain rfl := eq_of_heq e2
      obtain ⟨rr, A, c, hr, rfl, hc, hsl⟩ := hx
      obtain ⟨f, b, hf, hb, hn, _⟩ := h.obj ho (by simp)
      rw [hr] at hb; cases hb
      by_cases hz : xs.length = 0
      · have : xs = [] := List.eq_nil_of_length_eq_zero hz
        subst this
        exact ⟨A, c, [], by rw [hn], by omega, rfl, .inl rfl⟩
      obtain ⟨f', b', mid, hf', hb', hreal, _, _, _, hcell, hrow⟩ := vec_cells h ho (by omega)
      rw [hr] at hb'; cases hb'
      refine ⟨A, c, mid, by rw [hn], by omega, hrow, .inr ?_⟩
      rcases hsl with ⟨_, rfl, _⟩ | ⟨h1, _⟩
      · exact ⟨rr.blk, rr.base, by simp [Bl.addr], hcell⟩
      · omega
    · simp at e
  · rename_i l off len
    split at e
    · rename_i T q' xs fr' ho
      simp only [AV.dat.injEq, K.sl.injEq] at e
      obtain ⟨rfl, e2, rfl⟩ := e
      obtain rfl := eq_of_heq e2
      obtain ⟨rr, A, c, hr, rfl, hc, hoff, hsl⟩ := hx
      obtain ⟨f, b, hf, hb, hn, _⟩ := h.obj ho (by simp)
      rw [hr] at hb; cases hb
      have hlen : ((xs.drop off).take len).length = len := by simp; omega
      by_cases hz : len = 0
      · subst hz
        exact ⟨A, c, [], by simp, by simp, by simp [rows], .inl hlen⟩
      obtain ⟨f', b', mid, hf', hb', hreal, _, hsz, _, hcell, hrow⟩ := vec_cells h ho (by omega)
      rw [hr] at hb'; cases hb'
      have hsplit : xs = xs.take off ++ ((xs.drop off).take len ++ (xs.drop off).drop len) := by
        rw [List.take_append_drop, List.take_append_drop]
      rw [hsplit] at hrow
      obtain ⟨m1, m2, rfl, r1, r2⟩ := rows.of_app hrow
      obtain ⟨m3, m4, rfl, r3, r4⟩ := rows.of_app r2
      have e1 := rows.len (fun x c => K.rd_len w _ q' x c) r1
      have e1' : m1.length = off * rr.sz := by rw [e1, hsz]; congr 1; simp; omega
      refine ⟨A, c, m3, by rw [hlen], by rw [hlen]; omega, r3, .inr ?_⟩
      rcases hsl with ⟨_, rfl, _⟩ | ⟨h1, _⟩
      · refine ⟨rr.blk, rr.base + off * rr.sz, by simp [Bl.addr], ?_⟩
        rw [← e1']; exact hcell.app.2.app.1
      · omega
    · simp at e
  · rename_i nm p i
    split at e
    · rename_i T T' kh ki xs hole ho
      simp only [AV.dat.injEq, K.sl.injEq] at e
      obtain ⟨rfl, e2, rfl⟩ := e
      obtain rfl := eq_of_heq e2
      obtain ⟨rn, rr, ri, A, c, hn, hr, hi, rfl, hc, hsl⟩ := hx
      obtain ⟨_, _, hfl, hrow⟩ := h.inner ho hr hi
      have hrn := hrow.1
      by_cases hz : (ith xs i).length = 0
      · have h0 : ith xs i = [] := List.eq_nil_of_length_eq_zero hz
        exact ⟨A, c, [], by rw [hrn], by omega, by rw [h0]; rfl, .inl hz⟩
      obtain ⟨hreal, mid, hcell, hm⟩ := IB.row_cells hrow (by omega)
      refine ⟨A, c, mid, by rw [hrn], by omega, hm.mono fun x y => K.rd_flat ki _ _ hfl, .inr ?_⟩
      rcases hsl with ⟨_, rfl, _⟩ | ⟨h1, _⟩
      · exact ⟨ri.blk, ri.base, rfl, hcell⟩
      · omega
    · simp at e
  · subst e
    obtain ⟨A, c, ev, hl, hcase⟩ := hx
    simp only [List.cons.injEq, and_true] at ev
    rcases hcase with hz | ⟨b, o, es, rfl, _, hc, hr⟩
    · have : ys = [] := List.eq_nil_of_length_eq_zero hz
      subst this
      exact ⟨A, c, [], ev, hl, rfl, .inl rfl⟩
    · exact ⟨_, c, es, ev, hl, hr, .inr ⟨b, o, rfl, hc⟩⟩

theorem run_firstCells' {A : Option Addr} {len c size : Nat} {news : List Value} {m : Nat} (hl : news.length = m * size) (h : m = 0 ∨ ∃ b o, A = some ⟨b, o, none⟩ ∧ cellsAt w b o news) :
    (Builtin.firstCells size m (.slice A len c)).run P w = .ok news.toArray w := by
  rcases h with rfl | ⟨b, o, rfl, hc⟩
  · have : news = [] := List.eq_nil_of_length_eq_zero (by simpa using hl)
    subst this
    cases A with
    | none => simp [Builtin.firstCells]
    | some x => simp [Builtin.firstCells, loadCells, loadCellsFrom]
  · exact run_firstCells_some w size m _ len c news hl (fun j v e => by rw [addr_add]; exact hc j v e)

theorem run_store_block {b o : Nat} {T : TypeId} {pre old post news : List Value} (hh : w.heap[b]? = some (.cells (pre ++ old ++ post).toArray T (0, 0))) (hp : pre.length = o) (hl : old.length = news.length) (h1 : ∀ u ∈ news, u.oneCell' = true) :
    (storeCells ⟨b, o, none⟩ news).run P w = .ok () (w.setRow b (pre ++ news ++ post).toArray) := by
  subst hp
  have := run_storeCells_at P b pre.length T news 0 _ w hh (by simp; omega) h1
  rw [this]
  congr 3
  simp only [Nat.add_zero, List.append_assoc]
  rw [List.take_left, List.drop_append, List.drop_eq_nil_of_le (by omega), List.nil_append, show pre.length + news.length - pre.length = news.length by omega, ← hl, List.drop_left]

theorem setRow_same {b : Nat} {old new : Array Value} {T : TypeId} {fz : Nat × Nat} (h : w.heap[b]? = some (.cells old T fz)) : (w.setRow b new).heap[b]? = some (.cells new T fz) := setRow_heap w b old new T fz h

theorem rows_flat {w : World} {N N' : Nat → Prop} {q : K} (hf : q.flat = true) : ∀ {xs : List q.den} {cs : List Value}, rows (q.rd w N) xs cs → rows (q.rd w N') xs cs
  | [], _, h => h
  | x :: xs, _, ⟨c, d, e, h1, h2⟩ => ⟨c, d, e, K.rd_flat q _ _ hf h1, rows_flat hf h2⟩

theorem src_cells (h : Rel C s β a w) {x : AV} {v : Value} (hx : x.R w (C.N s.heap β w) (C.fresh s.heap β w) β v) {q : K} {ys : List q.den} {fr : Bool} (e : x.bor s.heap = .dat (.sl q) ys fr) :
    ∃ A c news, v = .slice A ys.length c ∧ ys.length ≤ c ∧ rows (q.rd w (if (fr || q.flat) = true then C.fresh s.heap β w else C.N s.heap β w)) ys news ∧ (ys.length = 0 ∨ ∃ b o, A = some ⟨b, o, none⟩ ∧ cellsAt w b o news) := by
  obtain ⟨A, c, news, h1, h2, h3, h4⟩ := src_cells0 h hx e
  refine ⟨A, c, news, h1, h2, ?_, h4⟩
  by_cases hf : q.flat = true
  · exact rows_flat hf h3
  · have : q.flat = false := by simpa using hf
    rw [this, Bool.or_false]
    exact h3

end
end Go.Proofs.AM
end

section
namespace Go.Proofs.AM
open Go Go.RowKit

def undefTV : TV := .tup []
theorem undefTV_R {w : World} {N Nf : Nat → Prop} {β : List Bl} : undefTV.R w N Nf β undef := ⟨[], rfl, trivial⟩

section
variable {R : Type}

def setIn {A : Type} {ki : K} (xs : List (A × List ki.den)) (i : Nat) (ys : List ki.den) : List (A × List ki.den) := xs.modify i fun x => (x.1, ys)

def deepK (P : Program) (e : TypeId) : Option (TypeId × K × K) := match kindOf P 30 e, P.underlying e with
  | some (.pair kh (.sl ki)), some (.struct fs) => match fs.toList.getLast? with
    | some f => match aelem P f.type with
      | some T' => if (kh.flat && ki.flat) = true then some (T', kh, ki) else none
      | none => none
    | none => none
  | _, _ => none

def deepOne (P : Program) (s : AS) (e : TypeId) (n : Nat) (parts : List (Nat × Operand)) : Option (TypeId × List AV) := match parts, P.info? e, azero P e with
  | [(0, x)], some i, some z => match s.ev x with
    | .agg cs => if n = 1 ∧ cs.length = i.size ∧ z.length = i.size ∧ 0 < i.size ∧ i.size ≤ 16777216 then some (e, cs) else none
    | _ => none
  | _, _, _ => none

def adeepB (P : Program) (Γ : Env) (s : AS) (o : Oper) (t : TypeId) (n : Nat) (parts : List (Nat × Operand)) : Option (TypeId × List AV) := match Γ.deep with
  | [] => none
  | T :: D => if Γ.im o = true then none else match aelem P t with
    | none => none
    | some e => if (T :: D).contains e = true then deepOne P s e n parts else none

def hkill (h : Heap) : List Nat → Heap
  | [] => h
  | l :: T => (hkill h T).set l (true, .dead)

inductive DW where
  | flat
  | inner (nm p i : Nat)
  | row (l : Nat) (cs : List AV)

def adeepW (h : Heap) (e : TypeId) : AV → AV → DW
  | .dv nm p i, _ => .inner nm p i
  | _, .vw l 0 1 => match hat h l with
    | .box T cs => if T = e then .row l cs else .flat
    | _ => .flat
  | _, _ => .flat

def aappendIn (P : Program) (s : AS) (d : Option Nat) (e : TypeId) (q : K) (ys : List q.den) (nm p i : Nat) (k : AS → Option R) : Option R :=
  match hpool s.heap nm with
  | some p' => if p' = p then match hat s.heap p, P.info? e, azero P e with
    | .dvec T T' kh ki xs none, some inf, some z => if T' = e ∧ inf.size = ki.size ∧ z.length = ki.size then (if hq : q = ki then
        gd (((ith xs i).length + ys.length) * inf.bytes ≤ 140737488355328) (gd ((ith xs i).length + ys.length ≤ 140737488355328)
          (k (({ s with heap := (hkill s.heap [p] ++ [(true, AObj.dvec T T' kh ki (setIn xs i (ith xs i ++ (hq ▸ ys))) (some i))]).set nm (true, .hnd s.heap.length) } : AS).put d (.one (.dv nm s.heap.length i))))) else none) else none
    | _, _, _ => none
    else none
  | none => none

def adeepE (h : Heap) (kh ki : K) (T' : TypeId) (cs : List AV) : Option (kh.den × List ki.den × List Nat) :=
  match K.of h false kh (cs.take kh.size), cs.drop kh.size with
  | some (x, _), [.nilsl] => some (x, [], [])
  | some (x, _), [.vf m] => match hat h m with
    | .vec T1 q ys _ => if T1 = T' then (if hq : q = ki then some (x, hq ▸ ys, [m]) else none) else none
    | _ => none
  | _, _ => none

def adeepX (h : Heap) (e T' : TypeId) (kh ki : K) : AV → Option (List (kh.den × List ki.den) × List Nat)
  | .nilsl => some ([], [])
  | .hv nm _ _ => match hpool h nm with
    | some p => match hat h p with
      | .dvec T T1 kh1 ki1 xs none => if T = e ∧ T1 = T' then (if h1 : kh1 = kh then (if h2 : ki1 = ki then some (h1 ▸ h2 ▸ xs, [nm, p]) else none) else none) else none
      | _ => none
    | none => none
  | _ => none

def aappendRow (P : Program) (s : AS) (d : Option Nat) (e : TypeId) (a : AV) (b : Nat) (cs : List AV) (k : AS → Option R) : Option R :=
  match deepK P e, P.info? e, azero P e with
  | some (T', kh, ki), some inf, some z => if inf.size = kh.size + 1 ∧ z.length = kh.size + 1 then
      match adeepX s.heap e T' kh ki a, adeepE s.heap kh ki T' cs with
      | some (xs, T1), some (x, ys, T2) => gd ((xs.length + 1) * inf.bytes ≤ 140737488355328) (gd (xs.length + 1 ≤ 140737488355328)
          (k (({ s with heap := hkill s.heap (b :: (T2 ++ T1)) ++ [(true, .dvec e T' kh ki (xs ++ [(x, ys)]) none)] } : AS).put d (.one (.hv s.heap.length (xs ++ [(x, ys)]).length (kh.size + 1))))))
      | _, _ => none
    else none
  | _, _, _ => none

def astore (P : Program) (s : AS) (t : TypeId) (dst : AV) (v : TV) (k : AS → Option R) : Option R :=
  match P.info? t with
  | none => none
  | some i =>
    if v.solid = true ∧ v.cells.length = i.size ∧ v.cells.all AV.isOne = true then
      match dst with
      | .ptr l off => match hat s.heap l with
        | .box T cs => if off + i.size ≤ cs.length then k (s.upd l (.box T (splice cs off v.cells))) else none
        | _ => none
      | .vp l j off => match hat s.heap l with
        | .vec T q xs fr => if off + i.size ≤ q.size then
            gd (j < xs.length) (match K.of s.heap false q (splice (K.cells fr q (xs.getD j q.dflt)) off v.cells) with
              | some (y, f) => k (s.upd l (.vec T q (xs.set j y) (fr && f)))
              | none => none) else none
        | _ => match v, hpool s.heap l with
          | .one (.dv nm p m), some p' => if nm = l ∧ p = p' then match hat s.heap p with
            | .dvec T T' kh ki xs (some m') => if off = kh.size then gd (m = m') (gd (j = m') (k (s.upd p (.dvec T T' kh ki xs none)))) else none
            | _ => none
            else none
          | _, _ => none
      | .dp p m j off => match hat s.heap p with
        | .dvec T T' kh ki xs none => if off + i.size ≤ ki.size then
            gd (j < (ith xs m).length) (match K.of s.heap false ki (splice (K.cells true ki ((ith xs m).getD j ki.dflt)) off v.cells) with
              | some (y, _) => k (s.upd p (.dvec T T' kh ki (setIn xs m ((ith xs m).set j y)) none))
              | none => none) else none
        | _ => none
      | _ => none
    else none

def aowned (h : Heap) (e : TypeId) (q : K) : AV → Option (List q.den × Bool × Option Nat)
  | .nilsl => some ([], true, none)
  | .vf l => match hat h l with
    | .vec T q' xs fr => if T = e then (if e : q' = q then some (e ▸ xs, fr, some l) else none) else none
    | _ => none
  | .vw l off len => match hat h l with
    | .vec T q' xs fr => if T = e then (if e : q' = q then some (e ▸ ((xs.drop off).take len), fr, some l) else none) else none
    | _ => none
  | _ => none

def AS.kill (s : AS) : Option Nat → AS
  | none => s
  | some l => s.upd l .dead

def aappendTo (P : Program) (s : AS) (d : Option Nat) (e : TypeId) (q : K) (ys : List q.den) (fr2 : Bool) (x : AV) (k : AS → Option R) : Option R :=
  match aowned s.heap e q x, P.info? e, azero P e with
  | some (xs, fr1, l), some i, some z => if i.size = q.size ∧ z.length = q.size then
      gd ((xs.length + ys.length) * i.bytes ≤ 140737488355328) (gd (xs.length + ys.length ≤ 140737488355328)
        (k (((s.kill l).push (.vec e q (xs ++ ys) (fr1 && fr2))).put d (.one (.vf s.heap.length))))) else none
  | _, _, _ => none

def aappend (P : Program) (s : AS) (o : Oper) (c : Call) (k : AS → Option R) : Option R :=
  match c.args.toList, c.argTypes.toList with
  | [x, y], [t, t'] => if t = t' then match aelem P t, s.ev x, s.ev y with
    | some e, .one a, .one b => match adeepW s.heap e a b with
      | .inner nm p i => match b.bor s.heap with
        | .dat (.sl q) ys _ => aappendIn P s o.dst e q ys nm p i k
        | _ => none
      | .row l cs => match x with
        | .const _ => none
        | _ => aappendRow P s o.dst e a l cs k
      | .flat => match b.bor s.heap with
        | .dat (.sl q) ys fr2 => aappendTo P s o.dst e q ys (fr2 || q.flat) a k
        | .nilsl => match kindOf P 30 e with
          | some q => aappendTo P s o.dst e q [] true a k
          | none => none
        | _ => none
    | _, _, _ => none
    else none
  | _, _ => none

def aappendV (P : Program) (s : AS) (c : Call) (k : TV → Option R) : Option R :=
  match c.args.toList, c.argTypes.toList with
  | [x, y], [t, t'] => if t = t' then match aelem P t, s.ev x, s.ev y with
    | some e, .one .nilsl, .one b => match b.bor s.heap with
      | .dat (.sl q) ys fr2 => match P.info? e, azero P e with
        | some i, some z => if i.size = q.size ∧ z.length = q.size then
            gd (ys.length * i.bytes ≤ 140737488355328) (gd (ys.length ≤ 140737488355328) (k (.one (.dat (.sl q) ys (fr2 || q.flat))))) else none
        | _, _ => none
      | _ => none
    | _, _, _ => none
    else none
  | _, _ => none

def acopy (P : Program) (s : AS) (o : Oper) (c : Call) (k : AS → Option R) : Option R :=
  match c.args.toList, c.argTypes.toList with
  | [x, y], t :: _ => match aelem P t, s.ev x, s.ev y with
    | some e, .one a, .one b => match b.bor s.heap with
      | .dat (.sl q) ys fr2 => match a with
        | .vf l => match hat s.heap l with
          | .vec T q' xs fr => if e' : q' = q then szOk P e q.size (k ((s.upd l (.vec T q ((ys.take xs.length) ++ (e' ▸ xs.drop ys.length)) (fr && (fr2 || q.flat)))).put o.dst (.one (.dat (.int .i64) (min ys.length xs.length : Nat) true)))) else none
          | _ => none
        | .vw l off len => match hat s.heap l with
          | .vec T q' xs fr => if e' : q' = q then szOk P e q.size (k ((s.upd l (.vec T q ((e' ▸ xs.take off) ++ (ys.take len) ++ (e' ▸ xs.drop (off + min ys.length len))) (fr && (fr2 || q.flat)))).put o.dst (.one (.dat (.int .i64) (min ys.length len : Nat) true)))) else none
          | _ => none
        | _ => none
      | _ => none
    | _, _, _ => none
  | _, _ => none

def AS.made (s : AS) (im : Bool) (d : Option Nat) (e : TypeId) (q : K) (xs : List q.den) (fr : Bool) : AS := match im with
  | true => s.put d (.one (.dat (.sl q) xs fr))
  | false => (s.push (.vec e q xs fr)).put d (.one (.vf s.heap.length))

def amake (P : Program) (s : AS) (im : Bool) (o : Oper) (t : TypeId) (x y : Operand) (k : AS → Option R) : Option R :=
  match aelem P t, s.ev x, s.ev y with
  | some e, .one (.dat (.int .i64) n _), .one (.dat (.int .i64) m _) => match P.info? e, kindOf P 30 e, azero P e with
    | some i, some q, some z => match K.of s.heap false q z with
      | some (zd, true) => if i.size = q.size ∧ 0 < i.size ∧ 0 < i.bytes then gd (0 ≤ n) (gd (n ≤ m) (gd (m * i.bytes ≤ 140737488355328) (k (s.made im o.dst e q (List.replicate n.toNat zd) true)))) else none
      | _ => none
    | _, _, _ => none
  | _, _, _ => none

def aelems (h : Heap) (q : K) : Nat → List (Nat × TV) → Option (List q.den × Bool)
  | _, [] => some ([], true)
  | n, (i, t) :: r => if i = n ∧ t.solid = true ∧ t.cells.length = q.size then match K.of h false q t.cells, aelems h q (n + 1) r with
    | some (x, f), some (xs, g) => some (x :: xs, f && g)
    | _, _ => none
    else none

def abuildSlice (P : Program) (s : AS) (im : Bool) (o : Oper) (t : TypeId) (n : Nat) (parts : List (Nat × Operand)) (k : AS → Option R) : Option R :=
  match aelem P t with
  | none => none
  | some e => match P.info? e, kindOf P 30 e, azero P e with
    | some i, some q, some z => if i.size = q.size ∧ z.length = q.size ∧ parts.length = n ∧ n * i.size ≤ 16777216 then
        match aelems s.heap q 0 (parts.map fun p => (p.1, s.ev p.2)) with
        | some (xs, f) => k (s.made im o.dst e q xs f)
        | none => none
      else none
    | _, _, _ => none

def amakeMap (P : Program) (s : AS) (o : Oper) (t : TypeId) (k : AS → Option R) : Option R := match P.underlying t with
  | some (.map kt vt) => match kindOf P 30 kt, kindOf P 30 vt with
    | some kk, some vk => k ((s.push (.map (isAggT P kt, kk) (isAggT P vt, vk) [] true)).put o.dst (.one (.mp s.heap.length)))
    | _, _ => none
  | _ => none

def amapUpdate (P : Program) (s : AS) (t : TypeId) (x i v : TV) (k : AS → Option R) : Option R := match P.underlying t, x with
  | some (.map kt _), .one (.mp l) => match hat s.heap l with
    | .map ki vi es fr => if keyOk P kt ki = true then match decT s.heap ki i, decT s.heap vi v with
      | some (xk, _), some (y, f) => k (s.upd l (.map ki vi (mset ki es xk y) (fr && (f || vi.2.flat))))
      | _, _ => none
      else none
    | _ => none
  | _, _ => none

def amapEntry (P : Program) (s : AS) (o : Oper) (t : TypeId) (x i : TV) (k : AS → Option R) : Option R := match P.underlying t, x with
  | some (.map kt vt), .one (.mp m) => match hat s.heap m, azero P vt with
    | .map ki vi es fr, some _ => if keyOk P kt ki = true then match decT s.heap ki i with
      | some (xk, _) => k (({ s with heap := s.heap.set m (true, .dead) ++ [(true, .pend m ki vi xk (fun y => mset ki es xk y) fr)] } : AS).put o.dst (.tup [(false, [.junk]), (false, [.st s.heap.length])]))
      | _ => none
      else none
    | _, _ => none
  | _, _ => none

def aentryStore (s : AS) (x st v : TV) (k : AS → Option R) : Option R := match x, st with
  | .one (.mp m), .one (.st q) => match hat s.heap q, hat s.heap m with
    | .pend m' ki vi _ f fr, .dead => if m' = m ∧ ki.2.flat = true then match decT s.heap vi v with
      | some (y, f1) => k ((s.upd q .dead).upd m (.map ki vi (f y) (fr && (f1 || vi.2.flat))))
      | _ => none
      else none
    | _, _ => none
  | _, _ => none

def adelete (P : Program) (s : AS) (o : Oper) (c : Call) (k : AS → Option R) : Option R := match c.args.toList, c.argTypes.toList with
  | [m, i], t :: _ => match P.underlying t, s.ev m with
    | some (.map kt _), .one (.mp l) => match hat s.heap l with
      | .map ki vi es fr => if keyOk P kt ki = true then match decT s.heap ki (s.ev i) with
        | some (xk, _) => k ((s.upd l (.map ki vi (mdel ki es xk) fr)).put o.dst undefTV)
        | none => none
        else none
      | _ => none
    | _, _ => none
  | _, _ => none

def arange (P : Program) (s : AS) (o : Oper) (t : TypeId) (x : TV) (k : AS → Option R) : Option R := match P.underlying t, x with
  | some (.map _ _), .one (.mp m) => match hat s.heap m with
    | .map ki vi es fr => k (({ s with heap := s.heap.set m (true, .dead) ++ [(true, .walk m ki vi es es none fr)] } : AS).put o.dst (.one (.wk s.heap.length)))
    | _ => none
  | _, _ => none

def aentry (h : Heap) (x : TV) (k : TV → Option R) : Option R := match x with
  | .one (.wk l) => match hat h l with
    | .walk _ ki vi _ _ (some p) fr => k (.tup [(ki.1, ki.2.cells fr p.1), (vi.1, vi.2.cells fr p.2)])
    | _ => none
  | _ => none

def atrimV (s : AS) (d : Option Nat) (tv : TV) (k : AS → Option R) : Option R := match tv with
  | .one (.vw l off len) => match hat s.heap l with
    | .vec T q xs fr => k (((s.kill (some l)).push (.vec T q ((xs.drop off).take len) fr)).put d (.one (.vf s.heap.length)))
    | _ => none
  | _ => none

def astep (P : Program) (Γ : Env) (s : AS) (o : Oper) (k : AS → Option R) : Option R :=
  match o.op with
  | .slice _ _ _ _ _ => match Γ.im o with
    | true => aval P s o (fun tv => atrimV s o.dst tv k)
    | false => aval P s o (fun tv => k (s.put o.dst tv))
  | .alloc t => match azero P t with
    | some cs => k ((s.push (.box t cs)).put o.dst (.one (.ptr s.heap.length 0)))
    | none => none
  | .box t x => match s.ev x with
    | .dat q y fr => k (s.put o.dst (.one (.ro q y 0 (fr || q.flat))))
    | tv => if tv.solid = true then k ((s.push (.box t tv.cells)).put o.dst (.one (.ptr s.heap.length 0))) else none
  | .makeSlice t x y => amake P s (Γ.im o) o t x y k
  | .buildSlice t n parts => match adeepB P Γ s o t n parts.toList with
    | some (e, cs) => k ((s.push (.box e cs)).put o.dst (.one (.vw s.heap.length 0 1)))
    | none => abuildSlice P s (Γ.im o) o t n parts.toList k
  | .store t x y => match s.ev x with
    | .one d => astore P s t d (s.ev y) (fun s' => k (s'.put o.dst (.one .junk)))
    | _ => none
  | .lookup t x i ok => alookup P s.heap t (s.ev x) (s.ev i) ok (fun tv => k (s.put o.dst tv))
  | .entry x => aentry s.heap (s.ev x) (fun tv => k (s.put o.dst tv))
  | .range t x => arange P s o t (s.ev x) k
  | .makeMap t none => amakeMap P s o t k
  | .mapUpdate t m i x => amapUpdate P s t (s.ev m) (s.ev i) (s.ev x) (fun s' => k (s'.put o.dst (.one .junk)))
  | .mapEntry t m i => amapEntry P s o t (s.ev m) (s.ev i) k
  | .entryStore _ m st x => aentryStore s (s.ev m) (s.ev st) (s.ev x) (fun s' => k (s'.put o.dst (.one .junk)))
  | .call c => match c.callee with
    | .builtin .append => match Γ.im o with
      | true => aappendV P s c (fun tv => k (s.put o.dst tv))
      | false => aappend P s o c k
    | .builtin .copy => acopy P s o c k
    | .builtin .delete => adelete P s o c k
    | .builtin _ => aval P s o (fun tv => k (s.put o.dst tv))
    | .value f => match s.ev f with
      | .one (.fn fid caps) => match Γ.hd fid with
        | none => acall Γ s fid (c.args.toList.map s.ev ++ caps.map (fun l => .one (.ptr l 0))) (fun tv => k (s.put o.dst tv))
        | some d => match Γ.im o with
         | true => acall Γ s fid (c.args.toList.map s.ev ++ caps.map (fun l => .one (.ptr l 0))) (fun tv => k (s.put o.dst tv))
         | false => match f with
          | .func _ => acallH d s (c.args.toList.map s.ev ++ caps.map (fun l => .one (.ptr l 0))) (fun s' tv => k (s'.put o.dst tv))
          | _ => none
      | _ => none
    | _ => none
  | _ => aval P s o (fun tv => k (s.put o.dst tv))
end

def After (C : Cx) (s : AS) (β : List Bl) (d : Nat → Prop) {R : Type} (k : AS → Option R) (r : R) (a' : Act) (w' : World) : Prop :=
  ∃ s' β', k s' = some r ∧ Rel C s' β' a' w' ∧ Ext d s s' β β'

section
variable {P : Program} {C : Cx} {s : AS} {β : List Bl} {a : Act} {w : World} {R : Type} {k : AS → Option R} {r : R} {F : Fence} {n : Nat} {Q : Exit → Act → World → Prop} {o : Oper}

theorem value_step (hF : FW F) (h : Rel C s β a w) (hd : ∀ c, o.op ≠ .defer c) (e : aval P s o (fun tv => k (s.put o.dst tv)) = some r) :
    o.wpIn F n P a w (After C s β (fun i => o.dst = some i) k r) Q := by
  obtain ⟨tv, v, hk, hr, hv⟩ := aval_sound h e
  exact wpIn_value hF hd hr ⟨_, _, hk, h.put _ _ _ hv, Ext.put _ _ _ _⟩

theorem box_step (hF : FW F) (h : Rel C s β a w) (hd : ∀ c, o.op ≠ .defer c) {t : TypeId} {cs : List AV} {vs : List Value} (hc : All2 (AV.R w (C.N s.heap β w) (C.fresh s.heap β w) β) cs vs)
    (hr : (execOp a.eval o).run P w = .ok (.value (.pointer (some ⟨w.heap.size, 0, none⟩))) (w.alloc (.cells vs.toArray t)))
    (e : k ((s.push (.box t cs)).put o.dst (.one (.ptr s.heap.length 0))) = some r) : o.wpIn F n P a w (After C s β (fun i => o.dst = some i) k r) Q := by
  have hnew : (w.alloc (.cells vs.toArray t)).heap[w.heap.size]? = some (.cells vs.toArray t) := heap_alloc_new w _
  obtain ⟨h2, mv⟩ := h.push (Grew.alloc w (.cells vs.toArray t)) (.box t cs) ⟨w.heap.size, 0, 0, 0, 0, true, none, []⟩ (fun b hb => by simp only [AObj.occ, List.mem_singleton] at hb; subst hb; simp)
    (fun mv _ _ => ⟨vs, hnew, rfl, hc.mono mv⟩)
  refine wpIn_value hF hd hr ⟨_, _, e, h2.put _ _ _ ?_, (Ext.push _ s β _ _).trans (Ext.put _ _ _ _)⟩
  exact ⟨⟨w.heap.size, 0, 0, 0, 0, true, none, []⟩, by rw [← h.bsize]; simp, by simp [Bl.addr]⟩

theorem alloc_step (hF : FW F) (h : Rel C s β a w) {t : TypeId} (ho : o.op = .alloc t) {cs : List AV} (hz : azero P t = some cs)
    (e : k ((s.push (.box t cs)).put o.dst (.one (.ptr s.heap.length 0))) = some r) : o.wpIn F n P a w (After C s β (fun i => o.dst = some i) k r) Q := by
  unfold azero at hz
  split at hz
  · rename_i i hi
    split at hz
    · rename_i z hzv
      simp only [Option.some.injEq] at hz; subst hz
      have hzc : All2 (AV.R w (C.N s.heap β w) (C.fresh s.heap β w) β) (constTV z).cells z.cells.toList := by
        unfold constTV
        split
        · rename_i cs; simpa [TV.cells, Value.cells] using All2_const cs.toList
        · rename_i hne
          have hvc : z.cells = #[z] := by
            unfold Value.cells
            split
            · exact absurd rfl (hne _)
            · rfl
          rw [hvc]; exact ⟨constAV_R _, trivial⟩
      refine box_step hF h (by simp [ho]) hzc ?_ e
      simp [execOp, ho, Instr.alloc, zeroValue, typeInfo, hi, hzv, newVar, newRow]
    · simp at hz
  · simp at hz

theorem box_op_step (hF : FW F) (h : Rel C s β a w) {t : TypeId} {x : Operand} (ho : o.op = .box t x) (hs : (s.ev x).solid = true)
    (e : k ((s.push (.box t (s.ev x).cells)).put o.dst (.one (.ptr s.heap.length 0))) = some r) : o.wpIn F n P a w (After C s β (fun i => o.dst = some i) k r) Q := by
  refine box_step hF h (by simp [ho]) (TV.R_cells (h.ev x) hs) ?_ e
  simp [execOp, ho, Instr.box, newVar, newRow]

theorem boxD_step (hF : FW F) (h : Rel C s β a w) {t : TypeId} {x : Operand} (ho : o.op = .box t x) {q : K} {y : q.den} {fr : Bool} (hx : s.ev x = .dat q y fr)
    (e : k (s.put o.dst (.one (.ro q y 0 (fr || q.flat)))) = some r) : o.wpIn F n P a w (After C s β (fun i => o.dst = some i) k r) Q := by
  have hv := h.ev x
  rw [hx] at hv
  obtain ⟨hok, us, hu, hc⟩ := hv
  have hr : (execOp a.eval o).run P w = .ok (.value (.pointer (some ⟨w.heap.size, 0, none⟩))) (w.alloc (.cells us.toArray t)) := by
    simp [execOp, ho, Instr.box, newVar, newRow, hu, Value.cells]
  have hnew : (w.alloc (.cells us.toArray t)).heap[w.heap.size]? = some (.cells us.toArray t) := heap_alloc_new w _
  obtain ⟨h2, mv⟩ := h.grew (Grew.alloc w (.cells us.toArray t))
  have hf : C.fresh s.heap β (w.alloc (.cells us.toArray t)) w.heap.size := by
    refine ⟨h.keep.size, by simp, fun l ob rr h1 h3 hm => ?_⟩
    have := (h.occ l ob rr _ h1 h3 hm).1
    omega
  refine wpIn_value hF (by simp [ho]) hr ⟨_, _, e, h2.put _ _ _ ?_, Ext.put _ _ _ _⟩
  refine ⟨w.heap.size, 0, us, rfl, ?_, cellsAt_block (pre := []) (post := []) (by simpa using hnew), ?_⟩
  · cases (fr || q.flat)
    · exact Cx.fresh_N hf
    · exact hf
  · have hrd := K.cells_rd fr q y us hok (hc.mono mv)
    cases hfl : q.flat with
    | true => exact K.rd_flat _ _ _ hfl hrd
    | false => rw [Bool.or_false]; exact hrd

theorem call_args (h : Rel C s β a w) (l : List Operand) : All2 (TV.R w (C.N s.heap β w) (C.fresh s.heap β w) β) (l.map s.ev) (l.map a.eval) := by
  induction l with
  | nil => trivial
  | cons x l ih => exact ⟨h.ev x, ih⟩

theorem call_caps {N Nf : Nat → Prop} {caps : List Nat} {bs : List Value} (hb : All2 (fun l b => ∃ r, β[l]? = some r ∧ b = .pointer (r.addr 0)) caps bs) : All2 (TV.R w N Nf β) (caps.map (fun l => TV.one (.ptr l 0))) bs := by
  induction caps generalizing bs with
  | nil => match bs, hb with
    | [], _ => trivial
  | cons l caps ih => match bs, hb with
    | b :: bs, hb => exact ⟨hb.1, ih hb.2⟩

theorem enter_run {c : Call} (ho : o.op = .call c) {f : Operand} (hc : c.callee = .value f) {fid : FuncId} {bs : List Value} (hv : a.eval f = .func (.func fid) #[] bs.toArray)
    (hcall : ∀ args w, (callFunc fid args).run P w = .ok (.enter fid args) w) : (execOp a.eval o).run P w = .ok (.enter fid (c.args.toList.map a.eval ++ bs).toArray) w := by
  simp only [execOp, ho, resolve, hc, hv, Deferred.ofValue, Sem.run_bind, Sem.run_pure, Result.andThen_ok, invoke]
  rw [hcall]
  congr 2
  apply Array.ext'; simp

theorem call_step (hF : FW F) (h : Rel C s β a w) {Γ : Env} (hΓ : Γ.Sound P) {c : Call} (ho : o.op = .call c) {f : Operand} (hc : c.callee = .value f) {fid : FuncId} {caps : List Nat} (hf : s.ev f = .one (.fn fid caps))
    (e : acall Γ s fid (c.args.toList.map s.ev ++ caps.map (fun l => .one (.ptr l 0))) (fun tv => k (s.put o.dst tv)) = some r) : o.wpIn F n P a w (After C s β (fun i => o.dst = some i) k r) Q := by
  obtain ⟨bs, hv, hb⟩ := h.ev1 hf
  obtain ⟨hcall, hs⟩ := acall_sound h hΓ ((call_args h c.args.toList).app (call_caps hb)) e
  refine wpIn_enter hF (by simp [ho]) (f := fid) (args := (c.args.toList.map a.eval ++ bs).toArray) (w' := w) (enter_run ho hc hv hcall) hs ?_
  rintro e' w'' ⟨v, tv, rfl, hk, hg, hr⟩
  obtain ⟨h3, mv⟩ := h.grew hg
  exact ⟨v, rfl, _, _, hk, h3.put _ _ _ hr, Ext.put _ _ _ _⟩

theorem callH_step (hF : FW F) (h : Rel C s β a w) {c : Call} (ho : o.op = .call c) {f : Operand} (hc : c.callee = .value f) {fid : FuncId} {caps : List Nat} (hf : s.ev f = .one (.fn fid caps)) {d : HD} (hd : d.Sound P fid)
    (e : acallH d s (c.args.toList.map s.ev ++ caps.map (fun l => .one (.ptr l 0))) (fun s' tv => k (s'.put o.dst tv)) = some r) : o.wpIn F n P a w (After C s β (fun i => o.dst = some i) k r) Q := by
  obtain ⟨bs, hv, hb⟩ := h.ev1 hf
  unfold acallH at e
  split at e
  · simp at e
  rename_i x hx
  obtain ⟨y, hy, e⟩ := Option.bind_eq_some_iff.1 e
  refine wpIn_enter hF (by simp [ho]) (f := fid) (args := (c.args.toList.map a.eval ++ bs).toArray) (w' := w) (enter_run ho hc hv hd.1) (hd.2 x y hy C s β a w _ _ h ((call_args h c.args.toList).app (call_caps hb)) hx) ?_
  rintro e' w'' ⟨v, β', rfl, hr, ht, hg⟩
  refine ⟨v, rfl, _, _, e, hr.put _ _ _ ht, ?_⟩
  have hE : Ext (fun i => o.dst = some i) s { s with heap := (d.out s.heap (c.args.toList.map s.ev ++ caps.map (fun l => .one (.ptr l 0))) x y).1 } β β' :=
    ⟨hg.bx, fun _ _ => rfl, rfl, hg.hl, hg.hp, ⟨[], rfl⟩, hg.hm⟩
  exact hE.trans (Ext.put _ _ _ _)
end
end Go.Proofs.AM
end

section
namespace Go.Proofs.AM
open Go Go.RowKit

theorem All2.ofGet {α γ : Type} {Q : α → γ → Prop} : ∀ {l : List α} {m : List γ}, l.length = m.length → (∀ (i : Nat) (a : α) (b : γ), l[i]? = some a → m[i]? = some b → Q a b) → All2 Q l m
  | [], [], _, _ => trivial
  | x :: l, y :: m, hl, h => ⟨h 0 x y rfl rfl, All2.ofGet (by simpa using hl) fun i a b e1 e2 => h (i + 1) a b (by simpa using e1) (by simpa using e2)⟩
  | [], _ :: _, h, _ => by simp at h
  | _ :: _, [], h, _ => by simp at h

def deepI (l : List IB) : List Nat := (l.filter (·.real)).map (·.blk)

theorem deep_eq (r : Bl) : r.deep = (if r.real then [r.blk] else []) ++ deepI r.inn := rfl

theorem deepI_mem {l : List IB} {i : Nat} {ri : IB} (h : l[i]? = some ri) (hr : ri.real = true) : ri.blk ∈ deepI l := List.mem_map.2 ⟨ri, List.mem_filter.2 ⟨List.mem_of_getElem? h, hr⟩, rfl⟩

theorem deepI_cons (x : IB) (l : List IB) : deepI (x :: l) = (if x.real then [x.blk] else []) ++ deepI l := by
  unfold deepI
  cases h : x.real <;> simp [h]

theorem deepI_apart : ∀ {l : List IB}, (deepI l).Nodup → ∀ {i j : Nat} {ri rj : IB}, l[i]? = some ri → l[j]? = some rj → ri.real = true → rj.real = true → ri.blk = rj.blk → i = j
  | [], _, i, j, _, _, h, _, _, _, _ => by simp at h
  | x :: l, hn, 0, 0, _, _, _, _, _, _, _ => rfl
  | x :: l, hn, 0, j + 1, ri, rj, h, h', hr, hr', e => by
    simp at h h'
    subst h
    rw [deepI_cons, if_pos hr] at hn
    have := (List.nodup_cons.1 hn).1
    exact absurd (e ▸ deepI_mem h' hr') this
  | x :: l, hn, i + 1, 0, ri, rj, h, h', hr, hr', e => by
    simp at h h'
    subst h'
    rw [deepI_cons, if_pos hr'] at hn
    have := (List.nodup_cons.1 hn).1
    exact absurd (e ▸ deepI_mem h hr) this
  | x :: l, hn, i + 1, j + 1, ri, rj, h, h', hr, hr', e => by
    rw [deepI_cons] at hn
    exact congrArg (· + 1) (deepI_apart (List.nodup_append.1 hn).2.1 (by simpa using h) (by simpa using h') hr hr' e)

theorem deepI_set_mem {b : Nat} {r' : IB} : ∀ {l : List IB} {i : Nat}, b ∈ deepI (l.set i r') → b ∈ deepI l ∨ (r'.real = true ∧ b = r'.blk)
  | [], _, h => .inl (by simpa using h)
  | x :: l, 0, h => by
    rw [List.set_cons_zero, deepI_cons] at h
    rw [deepI_cons]
    rcases List.mem_append.1 h with h | h
    · cases hr : r'.real <;> simp [hr] at h
      exact .inr ⟨rfl, h⟩
    · exact .inl (List.mem_append_right _ h)
  | x :: l, i + 1, h => by
    rw [List.set_cons_succ, deepI_cons] at h
    rw [deepI_cons]
    rcases List.mem_append.1 h with h | h
    · exact .inl (List.mem_append_left _ h)
    · exact (deepI_set_mem h).imp (List.mem_append_right _) id

theorem deepI_set_nodup {r' : IB} : ∀ {l : List IB} {i : Nat} {ri : IB}, (deepI l).Nodup → l[i]? = some ri → (r'.real = true → r'.blk ∈ deepI l → ri.real = true ∧ r'.blk = ri.blk) → (deepI (l.set i r')).Nodup
  | [], _, _, _, h, _ => by simp at h
  | x :: l, 0, ri, hn, h, hb => by
    simp at h; subst h
    rw [List.set_cons_zero, deepI_cons]
    rw [deepI_cons] at hn hb
    cases hr : r'.real with
    | false => simpa using (List.nodup_append.1 hn).2.1
    | true =>
      simp only [if_true, List.singleton_append, List.nodup_cons]
      refine ⟨fun hm => ?_, (List.nodup_append.1 hn).2.1⟩
      obtain ⟨h1, h2⟩ := hb hr (List.mem_append_right _ hm)
      rw [if_pos h1] at hn
      exact (List.nodup_cons.1 hn).1 (h2 ▸ hm)
  | x :: l, i + 1, ri, hn, h, hb => by
    simp at h
    rw [List.set_cons_succ, deepI_cons]
    rw [deepI_cons] at hn hb
    obtain ⟨n1, n2, n3⟩ := List.nodup_append.1 hn
    have ih := deepI_set_nodup (r' := r') n2 h (fun hr hm => hb hr (List.mem_append_right _ hm))
    refine List.nodup_append.2 ⟨n1, ih, fun y hy z hz e => ?_⟩
    subst e
    rcases deepI_set_mem hz with hz | ⟨hr, rfl⟩
    · exact n3 y hy y hz rfl
    · obtain ⟨h1, h2⟩ := hb hr (List.mem_append_left _ hy)
      exact n3 _ hy _ (deepI_mem h h1) h2

theorem deepI_append (l l' : List IB) : deepI (l ++ l') = deepI l ++ deepI l' := by
  unfold deepI; simp

theorem setIn_len {A : Type} {ki : K} (xs : List (A × List ki.den)) (i : Nat) (ys : List ki.den) : (setIn xs i ys).length = xs.length := by simp [setIn]

theorem setIn_hd {A : Type} {ki : K} (xs : List (A × List ki.den)) (i : Nat) (ys : List ki.den) : (setIn xs i ys).map (·.1) = xs.map (·.1) := by
  unfold setIn
  apply List.ext_getElem?
  intro j
  simp only [List.getElem?_map, List.getElem?_modify]
  by_cases e : i = j <;> simp [e]
  cases xs[j]? <;> rfl

theorem setIn_get {A : Type} {ki : K} {xs : List (A × List ki.den)} {i j : Nat} {ys : List ki.den} {x : A × List ki.den} (h : (setIn xs i ys)[j]? = some x) : ∃ x0, xs[j]? = some x0 ∧ x.1 = x0.1 ∧ (i = j → x.2 = ys) ∧ (i ≠ j → x.2 = x0.2) := by
  unfold setIn at h
  rw [List.getElem?_modify] at h
  cases hj : xs[j]? with
  | none => simp [hj] at h
  | some x0 =>
    refine ⟨x0, rfl, ?_⟩
    rw [hj] at h
    by_cases e : i = j
    · have h : some ((fun a : A × List ki.den => (a.1, ys)) x0) = some x := by simpa [e] using h
      simp only [Option.some.injEq] at h; subst h; simp [e]
    · have h : some x0 = some x := by simpa [e] using h
      simp only [Option.some.injEq] at h; subst h; simp [e]

section
variable {w : World} {kh ki : K}

theorem drows_hd {hole : Option Nat} : ∀ {j : Nat} {xs xs' : List (kh.den × List ki.den)} {rs : List IB} {cs : List Value}, xs'.map (·.1) = xs.map (·.1) → drows w kh ki hole j xs rs cs → drows w kh ki hole j xs' rs cs
  | _, [], [], [], _, _, h => h
  | _, x :: xs, x' :: xs', ri :: rs, _, e, ⟨ch, v, cs', e0, h1, h2, h3⟩ => by
    simp only [List.map_cons, List.cons.injEq] at e
    exact ⟨ch, v, cs', e0, by rw [e.1]; exact h1, h2, drows_hd e.2 h3⟩
  | _, [], _ :: _, _, _, e, _ => by simp at e
  | _, _ :: _, [], _, _, e, _ => by simp at e
  | _, [], _, _ :: _, _, _, h => h.elim
  | _, _ :: _, _, [], _, _, h => h.elim

theorem drows_past {hl : Nat} : ∀ {j : Nat} {xs : List (kh.den × List ki.den)} {rs : List IB} {cs : List Value}, hl < j → drows w kh ki (some hl) j xs rs cs → drows w kh ki none j xs rs cs
  | _, [], [], _, _, h => h
  | j, x :: xs, ri :: rs, _, hj, ⟨ch, v, cs', e0, h1, h2, h3⟩ => by
    refine ⟨ch, v, cs', e0, h1, .inr (h2.resolve_left fun e => ?_), drows_past (by omega) h3⟩
    simp at e; omega
  | _, [], _ :: _, _, _, h => h.elim
  | _, _ :: _, [], _, _, h => h.elim

theorem drows_fill : ∀ {m j : Nat} {xs : List (kh.den × List ki.den)} {rs : List IB} {cs : List Value} {ri : IB} {v : Value}, drows w kh ki (some (j + m)) j xs rs cs → rs[m]? = some ri → (∃ A c, v = .slice A ri.n c ∧ ri.n ≤ c ∧ ri.slice A c) →
    drows w kh ki none j xs rs (cs.take (m * (kh.size + 1) + kh.size) ++ v :: cs.drop (m * (kh.size + 1) + kh.size + 1))
  | _, _, [], [], _, _, _, _, h, _ => by simp at h
  | 0, j, x :: xs, ri :: rs, _, r, v, ⟨ch, v0, cs', rfl, h1, h2, h3⟩, e, hv => by
    simp at e; subst e
    have hl := K.rd_len w _ kh _ _ h1
    refine ⟨ch, v, cs', ?_, h1, .inr hv, drows_past (by omega) h3⟩
    rw [Nat.zero_mul, Nat.zero_add, List.take_left' hl]
    congr 2
    rw [show ch ++ v0 :: cs' = (ch ++ [v0]) ++ cs' by simp, List.drop_left' (by simp [hl])]
  | m + 1, j, x :: xs, ri :: rs, _, r, v, ⟨ch, v0, cs', rfl, h1, h2, h3⟩, e, hv => by
    have hl := K.rd_len w _ kh _ _ h1
    have ih := drows_fill (m := m) (j := j + 1) (by rw [show j + 1 + m = j + (m + 1) by omega]; exact h3) (by simpa using e) hv
    refine ⟨ch, v0, _, ?_, h1, .inr (h2.resolve_left fun e => by simp at e), ih⟩
    have e1 : (m + 1) * (kh.size + 1) + kh.size = (ch ++ [v0]).length + (m * (kh.size + 1) + kh.size) := by simp [hl, Nat.add_mul]; omega
    rw [e1, show ch ++ v0 :: cs' = (ch ++ [v0]) ++ cs' by simp, List.take_length_add_append, Nat.add_assoc, List.drop_length_add_append]
    simp
  | _, _, [], _ :: _, _, _, _, h, _, _ => h.elim
  | _, _, _ :: _, [], _, _, _, h, _, _ => h.elim

theorem drows_hole {hl : Nat} : ∀ {j : Nat} {xs : List (kh.den × List ki.den)} {rs : List IB} {cs : List Value} {r' : IB} {m : Nat}, drows w kh ki none j xs rs cs → drows w kh ki (some (j + m)) j xs (rs.set m r') cs
  | _, [], [], _, _, _, h => h
  | j, x :: xs, ri :: rs, _, r', 0, ⟨ch, v0, cs', e0, h1, h2, h3⟩ => by
    refine ⟨ch, v0, cs', e0, h1, .inl rfl, ?_⟩
    have : ∀ {q j : Nat} {xs : List (kh.den × List ki.den)} {rs : List IB} {cs : List Value}, drows w kh ki none j xs rs cs → drows w kh ki (some q) j xs rs cs := by
      intro q j xs
      induction xs generalizing j with
      | nil => intro rs cs h; cases rs <;> exact h
      | cons x xs ih =>
        intro rs cs h
        cases rs with
        | nil => exact h
        | cons r rs => obtain ⟨ch, v, cs', e0, h1, h2, h3⟩ := h; exact ⟨ch, v, cs', e0, h1, .inr (h2.resolve_left fun e => by simp at e), ih h3⟩
    exact this h3
  | j, x :: xs, ri :: rs, _, r', m + 1, ⟨ch, v0, cs', e0, h1, h2, h3⟩ => by
    have ih := drows_hole (hl := hl) (j := j + 1) (r' := r') (m := m) h3
    rw [show j + 1 + m = j + (m + 1) by omega] at ih
    exact ⟨ch, v0, cs', e0, h1, .inr (h2.resolve_left fun e => by simp at e), ih⟩
  | _, [], _ :: _, _, _, _, h => h.elim
  | _, _ :: _, [], _, _, _, h => h.elim

theorem rows_turn {w' : World} {T : TypeId} (hf : ki.flat = true) {xs : List (kh.den × List ki.den)} {rs : List IB} (h : All2 (fun (ri : IB) (x : kh.den × List ki.den) => ri.row w T ki x.2) rs xs) {m : Nat} {r' : IB} {ys : List ki.den}
    (hr' : r'.row w' T ki ys) (hb : ∀ i r, i ≠ m → rs[i]? = some r → r.real = true → w'.heap[r.blk]? = w.heap[r.blk]?) :
    All2 (fun (ri : IB) (x : kh.den × List ki.den) => ri.row w' T ki x.2) (rs.set m r') (setIn xs m ys) := by
  refine All2.ofGet (by simp [setIn_len, h.len]) fun i a b e1 e2 => ?_
  obtain ⟨x0, g1, g2, g3, g4⟩ := setIn_get e2
  by_cases e : m = i
  · subst e
    have hlen : m < rs.length := by rw [h.len]; exact (List.getElem?_eq_some_iff.1 g1).1
    rw [List.getElem?_set_self hlen] at e1
    cases e1
    rw [g3 rfl]; exact hr'
  · rw [List.getElem?_set_ne e] at e1
    rw [g4 e]
    obtain ⟨b', k1, k2⟩ := h.get e1
    rw [g1] at k1; cases k1
    exact IB.row_block hf (fun hreal => hb i a (Ne.symm e) e1 hreal) k2

theorem rows_stay {w' : World} {T : TypeId} (hf : ki.flat = true) {xs : List (kh.den × List ki.den)} {rs : List IB} (h : All2 (fun (ri : IB) (x : kh.den × List ki.den) => ri.row w T ki x.2) rs xs)
    (hb : ∀ r ∈ rs, r.real = true → w'.heap[r.blk]? = w.heap[r.blk]?) : All2 (fun (ri : IB) (x : kh.den × List ki.den) => ri.row w' T ki x.2) rs xs :=
  h.imp' fun r hr x hx => IB.row_block hf (hb r hr) hx
end

theorem setRow_facts' (w : World) (b : Nat) (new : Array Value) : (w.setRow b new).os = w.os ∧ (w.setRow b new).tape = w.tape ∧ (w.setRow b new).output = w.output ∧ (w.setRow b new).heap.size = w.heap.size ∧
    ∀ i, i ≠ b → (w.setRow b new).heap[i]? = w.heap[i]? := ⟨rfl, rfl, rfl, by simp, fun i hi => setRow_other w b i new hi⟩

theorem set_get_self' {α : Type} {l : List α} {i : Nat} {x : α} (h : l[i]? = some x) : l.set i x = l := by
  apply List.ext_getElem?
  intro j
  by_cases e : i = j
  · subst e
    rw [List.getElem?_set_self (List.getElem?_eq_some_iff.1 h).1, h]
  · rw [List.getElem?_set_ne e]

section
variable {P : Program} {C : Cx} {s : AS} {β : List Bl} {a : Act} {w : World}

theorem fill_core (h : Rel C s β a w) {p m : Nat} {T T' : TypeId} {kh ki : K} {xs : List (kh.den × List ki.den)} (ho : hat s.heap p = .dvec T T' kh ki xs (some m)) {rp : Bl} (hr : β[p]? = some rp) {ri : IB} (hi : rp.inn[m]? = some ri) {v : Value}
    (hv : ∃ A c, v = .slice A ri.n c ∧ ri.n ≤ c ∧ ri.slice A c) :
    ∃ w', (storeCells ⟨rp.blk, rp.base + (m * rp.sz + kh.size), none⟩ [v]).run P w = .ok () w' ∧ Rel C (s.upd p (.dvec T T' kh ki xs none)) β a w' := by
  obtain ⟨f, b, hf, hb, q1, q2, q3, q4, q5, q6, q7, q8⟩ := h.obj ho (by simp)
  rw [hr] at hb; cases hb
  obtain ⟨x, hx, _⟩ := q7.get hi
  have hm := (List.getElem?_eq_some_iff.1 hx).1
  by_cases hreal : rp.real = true
  rotate_left
  · simp only [hreal] at q8
    have q8 : rp.n = 0 := q8
    omega
  simp only [hreal, if_true] at q8
  obtain ⟨pre, mid, post, hh, hp, hd, hcap⟩ := q8
  obtain ⟨hl1, hl2⟩ := drows_len hd
  have hlt : m * (kh.size + 1) + kh.size < mid.length := by
    rw [hl1]
    have := Nat.mul_le_mul_right (kh.size + 1) (show m + 1 ≤ xs.length by omega)
    rw [Nat.add_mul] at this; omega
  have hsplit : mid = mid.take (m * (kh.size + 1) + kh.size) ++ mid[m * (kh.size + 1) + kh.size] :: mid.drop (m * (kh.size + 1) + kh.size + 1) := by
    rw [List.getElem_cons_drop, List.take_append_drop]
  have hone : ∀ u ∈ [v], u.oneCell' = true := by
    intro u hu
    simp at hu; subst hu
    obtain ⟨A, c, rfl, _⟩ := hv
    rfl
  have hst := run_store_block (P := P) (w := w) (b := rp.blk) (o := rp.base + (m * rp.sz + kh.size)) (T := T) (pre := pre ++ mid.take (m * (kh.size + 1) + kh.size)) (old := [mid[m * (kh.size + 1) + kh.size]]) (post := mid.drop (m * (kh.size + 1) + kh.size + 1) ++ post) (news := [v])
    (by
      rw [hh]
      congr 2
      have : pre ++ mid ++ post = pre ++ (mid.take (m * (kh.size + 1) + kh.size) ++ mid[m * (kh.size + 1) + kh.size] :: mid.drop (m * (kh.size + 1) + kh.size + 1)) ++ post := by rw [← hsplit]
      rw [this]; simp only [List.append_assoc, List.cons_append, List.nil_append]) (by simp [hp, q2]; omega) rfl hone
  obtain ⟨f1, f2, f3, f4, f5⟩ := setRow_facts' w rp.blk (pre ++ mid.take (m * (kh.size + 1) + kh.size) ++ [v] ++ (mid.drop (m * (kh.size + 1) + kh.size + 1) ++ post)).toArray
  rw [deep_eq, if_pos hreal] at q6
  have hne : ∀ r ∈ rp.inn, r.real = true → r.blk ≠ rp.blk := fun r hr hreal' e => by
    have hmem : r.blk ∈ deepI rp.inn := by obtain ⟨i, hi⟩ := List.getElem?_of_mem hr; exact deepI_mem hi hreal'
    exact (List.nodup_cons.1 q6).1 (e ▸ hmem)
  obtain ⟨h2, mv⟩ := h.upd p _ (.dvec T T' kh ki xs none) rp hf hr f1 f2 f3 (by omega) (fun b _ hb => f5 b (fun e => hb (by rw [e]; exact deep_out hreal))) (by simp) (fun b hb => hb)
    (fun mv hN hNf hbl => by
      refine ⟨q1, q2, q3, q4, q5, by rw [deep_eq, if_pos hreal]; exact q6, rows_stay q5 q7 fun r hr hreal' => f5 _ (hne r hr hreal'), ?_⟩
      simp only [hreal, if_true]
      refine ⟨pre, mid.take (m * (kh.size + 1) + kh.size) ++ v :: mid.drop (m * (kh.size + 1) + kh.size + 1), post, ?_, hp, ?_, ?_⟩
      · rw [setRow_same hh]; simp
      · exact drows_any q4 (drows_fill (j := 0) (by rw [Nat.zero_add]; exact hd) hi hv)
      · rw [← hcap]; simp; omega)
  exact ⟨_, hst, h2⟩

theorem inner_store (h : Rel C s β a w) {p m : Nat} {T T' : TypeId} {kh ki : K} {xs : List (kh.den × List ki.den)} (ho : hat s.heap p = .dvec T T' kh ki xs none) {rp : Bl} (hr : β[p]? = some rp) {ri : IB} (hi : rp.inn[m]? = some ri)
    {j off : Nat} {cs : List AV} {vs : List Value} (hj : j < (ith xs m).length) (hcl : All2 (AV.R w (C.N s.heap β w) (C.fresh s.heap β w) β) cs vs) (hle : off + cs.length ≤ ki.size) (h1 : ∀ u ∈ vs, u.oneCell' = true) {y : ki.den} {f : Bool}
    (hk : K.of s.heap false ki (splice (K.cells true ki ((ith xs m).getD j ki.dflt)) off cs) = some (y, f)) :
    ∃ w', (storeCells ⟨ri.blk, ri.base + j * ri.sz + off, none⟩ vs).run P w = .ok () w' ∧ Rel C (s.upd p (.dvec T T' kh ki (setIn xs m ((ith xs m).set j y)) none)) β a w' := by
  obtain ⟨f0, b, hf, hb, q1, q2, q3, q4, q5, q6, q7, q8⟩ := h.obj ho (by simp)
  rw [hr] at hb; cases hb
  obtain ⟨hm, _, _, hrow⟩ := h.inner ho hr hi
  obtain ⟨g1, g2, g3, g4⟩ := hrow
  have hreal : ri.real = true := by
    cases hq : ri.real with
    | true => rfl
    | false => simp only [hq] at g4; have g4 : ri.n = 0 := g4; omega
  simp only [hreal, if_true] at g4
  obtain ⟨pre, mid, post, hh, hp, hrw, hcap⟩ := g4
  generalize hys : ith xs m = ys at hj hk hrw g1
  have hsplit : ys = ys.take j ++ (ys[j] :: ys.drop (j + 1)) := by rw [List.getElem_cons_drop, List.take_append_drop]
  have hxj : ys.getD j ki.dflt = ys[j] := by simp [List.getElem?_eq_getElem hj]
  rw [hxj] at hk
  have hrow' := hrw
  rw [hsplit] at hrow'
  obtain ⟨m1, m2, rfl, r1, c, m3, rfl, r2, r3⟩ := rows.of_app hrow'
  have e1 := rows.len (fun x c => K.rd_len w _ ki x c) r1
  have e1' : m1.length = j * ri.sz := by rw [e1, g2]; congr 1; simp; omega
  have hcs := K.cells_R (w := w) (N := C.N s.heap β w) (Nf := C.fresh s.heap β w) (β := β) true ki _ _ (K.rd_flat ki _ _ q5 r2)
  have hsp := hcs.splice (off := off) hcl
  have hclen := K.rd_len w _ ki _ _ r2
  have hy := of_sound h hsp hk
  have hvl := hcl.len
  have hcsplit : c = c.take off ++ ((c.drop off).take vs.length ++ (c.drop off).drop vs.length) := by rw [List.take_append_drop, List.take_append_drop]
  have hsame : pre ++ (m1 ++ (c ++ m3)) ++ post = pre ++ m1 ++ c.take off ++ (c.drop off).take vs.length ++ ((c.drop off).drop vs.length ++ m3 ++ post) := by
    have : c ++ (m3 ++ post) = c.take off ++ ((c.drop off).take vs.length ++ ((c.drop off).drop vs.length ++ (m3 ++ post))) := by
      conv => lhs; rw [hcsplit]
      simp only [List.append_assoc]
    simp only [List.append_assoc, this]
  have hst := run_store_block (P := P) (w := w) (b := ri.blk) (o := ri.base + j * ri.sz + off) (T := T') (pre := pre ++ m1 ++ c.take off) (old := (c.drop off).take vs.length) (post := (c.drop off).drop vs.length ++ m3 ++ post) (news := vs)
    (by rw [hh, hsame]) (by simp [hp, e1']; omega) (by simp; omega) h1
  obtain ⟨f1, f2, f3, f4, f5⟩ := setRow_facts' w ri.blk (pre ++ m1 ++ c.take off ++ vs ++ ((c.drop off).drop vs.length ++ m3 ++ post)).toArray
  have hin : ri.blk ∈ rp.deep := deep_inn (List.mem_of_getElem? hi) hreal
  obtain ⟨n1, n2, n3⟩ := List.nodup_append.1 (by rw [deep_eq] at q6; exact q6)
  obtain ⟨h2, mv⟩ := h.upd p _ (.dvec T T' kh ki (setIn xs m (ys.set j y)) none) rp hf hr f1 f2 f3 (by omega) (fun b _ hb => f5 b (fun e => hb (by rw [e]; exact hin))) (by simp) (fun b hb => hb)
    (fun mv hN hNf hbl => by
      refine ⟨by rw [setIn_len]; exact q1, q2, q3, q4, q5, q6, ?_, ?_⟩
      · have := rows_turn (w' := w.setRow ri.blk (pre ++ m1 ++ c.take off ++ vs ++ ((c.drop off).drop vs.length ++ m3 ++ post)).toArray) (T := T') q5 q7 (m := m) (r' := ri) (ys := ys.set j y) ?_ ?_
        · rwa [set_get_self' hi] at this
        · refine ⟨by simpa using g1, g2, g3, ?_⟩
          simp only [hreal, if_true]
          refine ⟨pre, m1 ++ (c.take off ++ vs ++ (c.drop off).drop vs.length) ++ m3, post, ?_, hp, ?_, ?_⟩
          · rw [setRow_same hh]; simp
          · have up : ∀ (x : ki.den) (cc : List Value), ki.rd w (fun _ => False) x cc → ki.rd (w.setRow ri.blk (pre ++ m1 ++ c.take off ++ vs ++ ((c.drop off).drop vs.length ++ m3 ++ post)).toArray) (fun _ => False) x cc := fun x cc hx => K.rd_flat ki _ _ q5 hx
            have hset : ys.set j y = ys.take j ++ y :: ys.drop (j + 1) := by rw [List.set_eq_take_append_cons_drop, if_pos hj]
            rw [hset, List.append_assoc m1]
            have hy' : ki.rd w (Dec C s β w false f) y (c.take off ++ vs ++ (c.drop off).drop vs.length) := by rw [List.drop_drop]; exact hy
            exact (r1.mono up).app ⟨_, m3, rfl, K.rd_flat ki _ _ q5 hy', r3.mono up⟩
          · simp only [List.length_append] at hcap ⊢
            have : (c.take off).length + vs.length + ((c.drop off).drop vs.length).length = c.length := by simp; omega
            omega
        · intro i r hne hri hrr
          exact f5 _ fun e => hne (deepI_apart n2 hri hi hrr hreal e)
      · by_cases hro : rp.real = true
        · simp only [hro, if_true] at q8 ⊢
          obtain ⟨pre0, mid0, post0, k1, k2, k3, k4⟩ := q8
          refine ⟨pre0, mid0, post0, ?_, k2, drows_hd (setIn_hd _ _ _) (drows_any q4 k3), k4⟩
          rw [f5 rp.blk (fun e => n3 rp.blk (by simp [hro]) ri.blk (deepI_mem hi hreal) e)]
          exact k1
        · simp only [hro] at q8 ⊢
          exact q8)
  exact ⟨_, hst, h2⟩
end
end Go.Proofs.AM
end

section
namespace Go.Proofs.AM
open Go Go.RowKit

section
variable {P : Program} {C : Cx} {s : AS} {β : List Bl} {a : Act} {w : World} {R : Type} {k : AS → Option R} {r : R} {F : Fence} {n : Nat} {Q : Exit → Act → World → Prop} {o : Oper}

theorem setRow_facts (w : World) (b : Nat) (new : Array Value) : (w.setRow b new).os = w.os ∧ (w.setRow b new).tape = w.tape ∧ (w.setRow b new).output = w.output ∧ (w.setRow b new).heap.size = w.heap.size ∧
    ∀ i, i ≠ b → (w.setRow b new).heap[i]? = w.heap[i]? := ⟨rfl, rfl, rfl, by simp, fun i hi => setRow_other w b i new hi⟩

theorem store_step (hF : FW F) (h : Rel C s β a w) {t : TypeId} {x y : Operand} (ho : o.op = .store t x y) {d : AV} (hx : s.ev x = .one d)
    (e : astore P s t d (s.ev y) (fun s' => k (s'.put o.dst (.one .junk))) = some r) : o.wpIn F n P a w (After C s β (fun i => o.dst = some i) k r) Q := by
  unfold astore at e
  split at e
  · simp at e
  rename_i i hi
  split at e
  rotate_left
  · simp at e
  rename_i hcond
  obtain ⟨hsol, hlen, hone⟩ := hcond
  have hcl := TV.R_cells (h.ev y) hsol
  have hvl := hcl.len
  have h1 := hcl.one hone
  have hd := h.ev1 hx
  have run : ∀ (b o' : Nat) (w' : World), a.eval x = .pointer (some ⟨b, o', none⟩) → (storeCells ⟨b, o', none⟩ (a.eval y).cells.toList).run P w = .ok () w' → (execOp a.eval o).run P w = .ok .skip w' := by
    intro b o' w' hax hst
    simp only [execOp, ho, hax, Instr.storeAt, Instr.sureAddr, storeVar, Sem.run_bind, Sem.run_pure, Result.andThen_ok, run_sizeOf hi]
    rw [if_neg (by rw [← Array.length_toList, ← hvl, hlen]; simp)]
    simp only [Sem.run_bind, hst, Sem.run_pure, Result.andThen_ok]
  split at e
  · rename_i l off
    split at e
    rotate_left
    · simp at e
    rename_i T cs hob
    split at e
    rotate_left
    · simp at e
    rename_i hle
    obtain ⟨rr, hr, hax⟩ := hd
    obtain ⟨f, b, hf, hb, vs, hh, hz, hc⟩ := h.obj hob (by simp)
    rw [hr] at hb; cases hb
    have hvs := hc.len
    have hsplit : vs = vs.take off ++ ((vs.drop off).take i.size ++ (vs.drop off).drop i.size) := by rw [List.take_append_drop, List.take_append_drop]
    have hst := run_store_block (P := P) (w := w) (b := rr.blk) (o := off) (T := T) (pre := vs.take off) (old := (vs.drop off).take i.size) (post := (vs.drop off).drop i.size) (news := (a.eval y).cells.toList)
      (by rw [hh, List.append_assoc, ← hsplit]) (by simp; omega) (by rw [← hvl, hlen]; simp; omega) h1
    obtain ⟨f1, f2, f3, f4, f5⟩ := setRow_facts w rr.blk (List.take off vs ++ (a.eval y).cells.toList ++ List.drop i.size (List.drop off vs)).toArray
    obtain ⟨h2, mv⟩ := h.upd l _ (.box T (splice cs off (s.ev y).cells)) rr hf hr f1 f2 f3 (by omega) (fun b _ hb => f5 b (fun e => hb (by simp [AObj.occ, e]))) (by simp) (fun b hb => hb)
      (fun mv _ _ _ => ⟨_, setRow_same hh, hz, by
        have := (hc.splice (off := off) hcl).mono mv
        rw [← hvl, hlen] at this
        rw [← List.drop_drop] at this
        exact this⟩)
    refine wpIn_skip' hF (by simp [ho]) (run rr.blk off _ (by rw [hax, Bl.addr, hz]; simp) hst) ⟨_, _, e, h2.put _ _ _ trivial, (Ext.upd _ s β _ _ (by rw [hf]; simp)).trans (Ext.put _ _ _ _)⟩
  · rename_i l j off
    split at e
    rotate_left
    · split at e
      rotate_left
      · simp at e
      rename_i nm p m p' hv hpl
      split at e
      rotate_left
      · simp at e
      rename_i hc
      obtain ⟨rfl, rfl⟩ := hc
      split at e
      rotate_left
      · simp at e
      rename_i T T' kh ki xs m' hob
      split at e
      rotate_left
      · simp at e
      rename_i hoff
      subst hoff
      obtain ⟨hm, e1⟩ := gd_some e; clear e
      obtain ⟨hj, e⟩ := gd_some e1; clear e1
      subst hm
      subst hj
      obtain ⟨rr, hr, hax⟩ := hd
      obtain ⟨f, r0, rp, T1, T1', kh1, ki1, xs1, hole1, k1, k2, k3, k4, k5, k6, k7, k8, k9, k10, kR⟩ := h.pool hpl
      rw [hr] at k3; cases k3
      have hve := h.ev1 hv
      obtain ⟨rn, rp', ri, A, c, g1, g2, g3, g4⟩ := hve
      rw [k4] at g2; cases g2
      obtain ⟨w', hst, hrel⟩ := fill_core (P := P) h hob k4 g3 ⟨A, c, g4⟩
      have hcy : (a.eval y).cells = #[a.eval y] := by rw [g4.1]; rfl
      refine wpIn_skip' hF (by simp [ho]) (run rp.blk _ w' (by rw [hax, Bl.addr, ← k5, ← k6, ← k7]) (by rw [hcy]; exact hst)) ⟨_, _, e, hrel.put _ _ _ trivial, (Ext.upd _ s β _ _ (by rw [k2]; rw [hob] at k1; cases k1; simp)).trans (Ext.put _ _ _ _)⟩
    rename_i T q xs fr hob
    split at e
    rotate_left
    · simp at e
    rename_i hle
    obtain ⟨hj, e⟩ := gd_some e
    split at e
    rotate_left
    · simp at e
    rename_i y' f' hk
    obtain ⟨rr, hr, hax⟩ := hd
    obtain ⟨f, b, hf, hb, g1, g2, g3, g4⟩ := h.obj hob (by simp)
    rw [hr] at hb; cases hb
    have hreal : rr.real = true := by
      cases hq : rr.real with
      | true => rfl
      | false => simp only [hq] at g4; have g4 : rr.n = 0 := g4; omega
    simp only [hreal, if_true] at g4
    obtain ⟨pre, mid, post, hh, hp, hrow, hcap⟩ := g4
    have hsplit : xs = xs.take j ++ (xs[j] :: xs.drop (j + 1)) := by rw [List.getElem_cons_drop, List.take_append_drop]
    have hxj : xs.getD j q.dflt = xs[j] := by simp [List.getElem?_eq_getElem hj]
    rw [hxj] at hk
    have hrow' := hrow
    rw [hsplit] at hrow'
    obtain ⟨m1, m2, rfl, r1, c, m3, rfl, r2, r3⟩ := rows.of_app hrow'
    have e1 := rows.len (fun x c => K.rd_len w _ q x c) r1
    have e1' : m1.length = j * rr.sz := by rw [e1, g2]; congr 1; simp; omega
    have hcs := K.cells_R (N := C.N s.heap β w) (Nf := C.fresh s.heap β w) (β := β) fr q _ _ r2
    have hsp := hcs.splice (off := off) hcl
    have hclen := K.rd_len w _ q _ _ r2
    have hy := of_sound h hsp hk
    have toN : ∀ g b, (if g = true then C.fresh s.heap β w else C.N s.heap β w) b → C.N s.heap β w b := fun g b hb => by cases g <;> first | exact hb | exact Cx.fresh_N hb
    have hweak : ∀ b, Dec C s β w false f' b → (if (fr && f') = true then C.fresh s.heap β w else C.N s.heap β w) b := fun b hb => by
      cases f' <;> cases fr <;> first | exact hb | exact Cx.fresh_N hb
    have hweak2 : ∀ b, (if fr = true then C.fresh s.heap β w else C.N s.heap β w) b → (if (fr && f') = true then C.fresh s.heap β w else C.N s.heap β w) b := fun b hb => by
      cases f' <;> cases fr <;> first | exact hb | exact Cx.fresh_N hb
    have hnl : (a.eval y).cells.toList.length = i.size := by rw [← hvl, hlen]
    have hcsplit : c = c.take off ++ ((c.drop off).take i.size ++ (c.drop off).drop i.size) := by rw [List.take_append_drop, List.take_append_drop]
    have hsame : pre ++ (m1 ++ (c ++ m3)) ++ post = pre ++ m1 ++ c.take off ++ (c.drop off).take i.size ++ ((c.drop off).drop i.size ++ m3 ++ post) := by
      have : c ++ (m3 ++ post) = c.take off ++ ((c.drop off).take i.size ++ ((c.drop off).drop i.size ++ (m3 ++ post))) := by
        conv => lhs; rw [hcsplit]
        simp only [List.append_assoc]
      simp only [List.append_assoc, this]
    have hrows : ∀ (w' : World) (M' : Nat → Prop), (∀ b, (if (fr && f') = true then C.fresh s.heap β w else C.N s.heap β w) b → w'.heap[b]? = w.heap[b]?) →
        (∀ b, (if (fr && f') = true then C.fresh s.heap β w else C.N s.heap β w) b → M' b) →
        rows (q.rd w' M') (xs.set j y') (m1 ++ (c.take off ++ (a.eval y).cells.toList ++ (c.drop off).drop i.size) ++ m3) := by
      intro w' M' hw' hM'
      have up : ∀ (x : q.den) (cc : List Value), q.rd w (if fr = true then C.fresh s.heap β w else C.N s.heap β w) x cc → q.rd w' M' x cc := fun x cc hx =>
        K.rd_mono hw' hM' q x cc (K.rd_mono (fun _ _ => rfl) hweak2 q x cc hx)
      have hy' := K.rd_mono hw' hM' q _ _ (K.rd_mono (fun _ _ => rfl) hweak q _ _ hy)
      rw [hnl, ← List.drop_drop] at hy'
      have hset : xs.set j y' = xs.take j ++ y' :: xs.drop (j + 1) := by rw [List.set_eq_take_append_cons_drop, if_pos hj]
      rw [hset, List.append_assoc m1]
      exact (r1.mono up).app ⟨_, m3, rfl, hy', r3.mono up⟩
    have hst := run_store_block (P := P) (w := w) (b := rr.blk) (o := rr.base + (j * rr.sz + off)) (T := T) (pre := pre ++ m1 ++ c.take off) (old := (c.drop off).take i.size) (post := (c.drop off).drop i.size ++ m3 ++ post) (news := (a.eval y).cells.toList)
      (by rw [hh, hsame]) (by simp [hp, e1']; omega) (by rw [hnl]; simp; omega) h1
    obtain ⟨f1, f2, f3, f4, f5⟩ := setRow_facts w rr.blk (pre ++ m1 ++ c.take off ++ (a.eval y).cells.toList ++ ((c.drop off).drop i.size ++ m3 ++ post)).toArray
    obtain ⟨h2, mv⟩ := h.upd l _ (.vec T q (xs.set j y') (fr && f')) rr hf hr f1 f2 f3 (by omega) (fun b _ hb => f5 b (fun e => hb (by simp [AObj.occ, e, hreal]))) (by simp) (fun b hb => hb)
      (fun mv hN hNf hbl => by
        refine ⟨by simpa using g1, g2, g3, ?_⟩
        simp only [hreal, if_true]
        refine ⟨pre, m1 ++ (c.take off ++ (a.eval y).cells.toList ++ (c.drop off).drop i.size) ++ m3, post, ?_, hp, ?_, ?_⟩
        · rw [setRow_same hh]; simp
        · refine hrows _ _ (fun b hb => hbl b (toN _ b hb)) fun b hb => ?_
          by_cases hg : (fr && f') = true
          · rw [if_pos hg] at hb ⊢; exact hNf b hb
          · rw [if_neg hg] at hb ⊢; exact hN b hb
        · simp only [List.length_append] at hcap ⊢
          have : (c.take off).length + (a.eval y).cells.toList.length + ((c.drop off).drop i.size).length = c.length := by rw [hnl]; simp; omega
          omega)
    refine wpIn_skip' hF (by simp [ho]) (run rr.blk _ _ (by rw [hax, Bl.addr]) hst) ⟨_, _, e, h2.put _ _ _ trivial, (Ext.upd _ s β _ _ (by rw [hf]; simp)).trans (Ext.put _ _ _ _)⟩
  · rename_i p m j off
    split at e
    rotate_left
    · simp at e
    rename_i T T' kh ki xs hob
    split at e
    rotate_left
    · simp at e
    rename_i hle
    obtain ⟨hj, e⟩ := gd_some e
    split at e
    rotate_left
    · simp at e
    rename_i y' f' hk
    obtain ⟨rp, ri, hr, hi, hax⟩ := hd
    obtain ⟨f, b, hf, hb, _⟩ := h.obj hob (by simp)
    obtain ⟨w', hst, hrel⟩ := inner_store (P := P) h hob hr hi hj hcl (by rw [hlen]; exact hle) h1 hk
    exact wpIn_skip' hF (by simp [ho]) (run ri.blk _ w' hax hst) ⟨_, _, e, hrel.put _ _ _ trivial, (Ext.upd _ s β _ _ (by rw [hf]; simp)).trans (Ext.put _ _ _ _)⟩
  · simp at e
end
end Go.Proofs.AM
end

section
namespace Go.Proofs.AM
open Go Go.RowKit

theorem Rel.move {C : Cx} {s : AS} {β : List Bl} {a : Act} {w w' : World} (h : Rel C s β a w) (l : Option Nat) (hl : ∀ m, l = some m → ∃ f T q xs fr, s.heap[m]? = some (f, .vec T q xs fr)) (o : AObj) (r : Bl)
    (hos : w'.os = w.os) (htape : w'.tape = w.tape) (hout : w'.output = w.output) (hsz : w.heap.size ≤ w'.heap.size)
    (hblk : ∀ b, b < w.heap.size → (∀ (m : Nat) (o0 : Bool × AObj) (rr : Bl), l = some m → s.heap[m]? = some o0 → β[m]? = some rr → b ∉ o0.2.occ rr) → w'.heap[b]? = w.heap[b]?)
    (hocc : ∀ b, b ∈ o.occ r → b < w'.heap.size ∧ (w.heap.size ≤ b ∨ ∃ (m : Nat) (o0 : Bool × AObj) (rr : Bl), l = some m ∧ s.heap[m]? = some o0 ∧ β[m]? = some rr ∧ b ∈ o0.2.occ rr))
    (hR : (∀ b, C.N s.heap β w b → C.N ((s.kill l).push o).heap (β ++ [r]) w' b) → (∀ b, C.fresh s.heap β w b → C.fresh ((s.kill l).push o).heap (β ++ [r]) w' b) → (∀ b, C.N s.heap β w b → w'.heap[b]? = w.heap[b]?) →
      o.R w' (C.N ((s.kill l).push o).heap (β ++ [r]) w') (C.fresh ((s.kill l).push o).heap (β ++ [r]) w') (β ++ [r]) r)
    (hdr : w.drawn ≤ w'.drawn := by first | exact Nat.le_refl _ | exact Nat.le_succ _) :
    Rel C ((s.kill l).push o) (β ++ [r]) a w' := by
  have hmem : ∀ m, l = some m → m < s.heap.length := fun m e => by
    obtain ⟨f, T, q, xs, fr, hm⟩ := hl m e
    exact (List.getElem?_eq_some_iff.1 hm).1
  have hh : ((s.kill l).push o).heap = (s.kill l).heap ++ [(true, o)] := rfl
  have hkl : (s.kill l).heap.length = s.heap.length := by cases l <;> simp [AS.kill, AS.upd]
  have hkne : ∀ m, l ≠ some m → (s.kill l).heap[m]? = s.heap[m]? := fun m hm => by
    cases l with
    | none => rfl
    | some x => simp only [AS.kill, AS.upd]; rw [List.getElem?_set_ne (fun e => hm (by rw [e]))]
  have hke : ∀ m, l = some m → (s.kill l).heap[m]? = some (true, .dead) := fun m hm => by
    subst hm; simp [AS.kill, AS.upd, hmem m rfl]
  have hnew : ∀ (m : Nat) (o1 : Bool × AObj) (r1 : Bl), ((s.kill l).push o).heap[m]? = some o1 → (β ++ [r])[m]? = some r1 → (l = some m ∨ s.heap.length ≤ m) →
      (l = some m ∧ o1 = (true, .dead)) ∨ (m = s.heap.length ∧ o1 = (true, o) ∧ r1 = r) := by
    intro m o1 r1 h1 h2 h3
    rw [hh] at h1
    by_cases hm : m < s.heap.length
    · have h4 := h3.resolve_right (by omega)
      rw [List.getElem?_append_left (by omega), hke m h4] at h1
      exact .inl ⟨h4, by simpa using h1.symm⟩
    · right
      have : m = s.heap.length := by have := (List.getElem?_eq_some_iff.1 h1).1; simp at this; omega
      subst this
      refine ⟨rfl, by rw [List.getElem?_append_right (by omega), hkl] at h1; simpa using h1.symm, ?_⟩
      rw [← h.bsize] at h2; simpa using h2.symm
  have := h.gen (hdr := hdr) ((s.kill l).push o).heap [r] w' (fun m => l = some m) hos htape hout hsz (by rw [hh]; simp [hkl])
    (fun m o1 h1 hn => ⟨o1, by rw [hh, List.getElem?_append_left (by rw [hkl]; exact (List.getElem?_eq_some_iff.1 h1).1), hkne m hn]; exact h1, rfl⟩)
    (fun m _ h1 => by
      have hn : l ≠ some m := fun e => by
        obtain ⟨f, T, q, xs, fr, hm⟩ := hl m e
        rw [h1] at hm; simp at hm
      rw [hh, List.getElem?_append_left (by rw [hkl]; exact (List.getElem?_eq_some_iff.1 h1).1), hkne m hn]; exact h1)
    (fun b hb hx => hblk b hb (fun m o0 rr e1 e2 e3 => hx m o0 rr e2 e3 e1))
    (fun m o1 r1 b h1 h2 h3 hx => by
      rcases hnew m o1 r1 h1 h2 h3 with ⟨_, rfl⟩ | ⟨rfl, rfl, rfl⟩
      · simp [AObj.occ] at hx
      · obtain ⟨g1, g2⟩ := hocc b hx
        refine ⟨g1, g2.imp id ?_⟩
        rintro ⟨m, o0, rr, e1, e2, e3, e4⟩
        exact ⟨m, o0, rr, e2, e3, e1, e4⟩)
    (fun m m' o1 o2 r1 r2 b h1 h2 h1' h2' h3 h3' hx hx' => by
      rcases hnew m o1 r1 h1 h2 h3 with ⟨_, rfl⟩ | ⟨rfl, rfl, rfl⟩
      · simp [AObj.occ] at hx
      · rcases hnew m' o2 r2 h1' h2' h3' with ⟨_, rfl⟩ | ⟨rfl, rfl, rfl⟩
        · simp [AObj.occ] at hx'
        · rfl)
    (fun m o1 r1 h1 h2 h3 k1 k2 k3 k4 => by
      rcases hnew m o1 r1 h1 h2 h3 with ⟨_, rfl⟩ | ⟨rfl, rfl, rfl⟩
      · trivial
      · exact hR k2 k3 k4)
  have he : { s with heap := ((s.kill l).push o).heap } = (s.kill l).push o := by cases l <;> rfl
  rw [he] at this
  exact this.1

theorem Ext.kill (d : Nat → Prop) (s : AS) (β : List Bl) (l : Option Nat) (hl : ∀ m, l = some m → ∃ f T q xs fr, s.heap[m]? = some (f, .vec T q xs fr)) : Ext d s (s.kill l) β β := by
  cases l with
  | none => exact Ext.refl _ _ _
  | some m =>
    obtain ⟨f, T, q, xs, fr, e⟩ := hl m rfl
    exact Ext.upd _ _ _ _ _ (by rw [e]; simp)

section
variable {P : Program} {C : Cx} {s : AS} {β : List Bl} {a : Act} {w : World} {R : Type} {k : AS → Option R} {r : R} {F : Fence} {n : Nat} {Q : Exit → Act → World → Prop} {o : Oper}

theorem own_cells (h : Rel C s β a w) {x : AV} {v : Value} (hx : x.R w (C.N s.heap β w) (C.fresh s.heap β w) β v) {e : TypeId} {q : K} {xs : List q.den} {fr : Bool} {l : Option Nat} (eo : aowned s.heap e q x = some (xs, fr, l)) :
    ∃ A c olds, v = .slice A xs.length c ∧ xs.length ≤ c ∧ rows (q.rd w (if fr then C.fresh s.heap β w else C.N s.heap β w)) xs olds ∧ (xs.length = 0 ∨ ∃ b o, A = some ⟨b, o, none⟩ ∧ cellsAt w b o olds) ∧
      (∀ m, l = some m → ∃ f T q xs fr, s.heap[m]? = some (f, .vec T q xs fr)) ∧
      (c = 0 ∨ ∃ m rr f ob pre post cap, l = some m ∧ s.heap[m]? = some (f, ob) ∧ β[m]? = some rr ∧ rr.blk ∈ ob.occ rr ∧ A = some ⟨rr.blk, pre.length, none⟩ ∧
        w.heap[rr.blk]? = some (.cells (pre ++ olds ++ post).toArray e (0, 0)) ∧ olds.length + post.length = cap * q.size ∧ c ≤ cap) := by
  unfold aowned at eo
  split at eo
  · simp only [Option.some.injEq, Prod.mk.injEq] at eo
    obtain ⟨rfl, rfl, rfl⟩ := eo
    have hx : v = _ := hx
    exact ⟨none, 0, [], hx, Nat.le_refl _, rfl, .inl rfl, by simp, .inl rfl⟩
  · rename_i m
    split at eo
    rotate_left
    · simp at eo
    rename_i T q' xs' fr' ho
    split at eo
    rotate_left
    · simp at eo
    rename_i hT
    subst hT
    split at eo
    rotate_left
    · simp at eo
    rename_i hq
    subst hq
    simp only [Option.some.injEq, Prod.mk.injEq] at eo
    obtain ⟨rfl, rfl, rfl⟩ := eo
    obtain ⟨rr, A, c, hr, rfl, hc, hsl⟩ := hx
    obtain ⟨f, b, hf, hb, g1, g2, g3, g4⟩ := h.obj ho (by simp)
    rw [hr] at hb; cases hb
    rcases hsl with ⟨hreal, rfl, hcap⟩ | ⟨hz, hc0⟩
    · simp only [hreal, if_true] at g4
      obtain ⟨pre, mid, post, hh, hp, hrow, hlen⟩ := g4
      have hcell : cellsAt w rr.blk rr.base mid := by rw [← hp]; exact cellsAt_block hh
      refine ⟨_, c, mid, by rw [g1], by omega, hrow, .inr ⟨rr.blk, rr.base, by simp [Bl.addr], hcell⟩, fun m' e' => by cases e'; exact ⟨f, _, _, _, _, hf⟩, .inr ⟨m, rr, f, _, pre, post, rr.cap, rfl, hf, hr, by simp [AObj.occ, hreal], by simp [Bl.addr, hp], hh, by rw [hlen, g2], by omega⟩⟩
    · have : xs'.length = 0 := by omega
      have : xs' = [] := List.eq_nil_of_length_eq_zero this
      subst this
      exact ⟨A, c, [], by rw [g1], by omega, rfl, .inl rfl, fun m' e' => by cases e'; exact ⟨f, _, _, _, _, hf⟩, .inl hc0⟩
  · rename_i m off len
    split at eo
    rotate_left
    · simp at eo
    rename_i T q' xs' fr' ho
    split at eo
    rotate_left
    · simp at eo
    rename_i hT
    subst hT
    split at eo
    rotate_left
    · simp at eo
    rename_i hq
    subst hq
    simp only [Option.some.injEq, Prod.mk.injEq] at eo
    obtain ⟨rfl, rfl, rfl⟩ := eo
    obtain ⟨rr, A, c, hr, rfl, hc, hoff, hsl⟩ := hx
    obtain ⟨f, b, hf, hb, g1, g2, g3, g4⟩ := h.obj ho (by simp)
    rw [hr] at hb; cases hb
    have hdl : ((xs'.drop off).take len).length = len := by simp; omega
    rcases hsl with ⟨hreal, rfl, hcap⟩ | ⟨hz, hc0⟩
    · simp only [hreal, if_true] at g4
      obtain ⟨pre, mid, post, hh, hp, hrow, hcl⟩ := g4
      have hrow' := hrow
      rw [← List.take_append_drop off xs', ← List.take_append_drop len (xs'.drop off)] at hrow'
      obtain ⟨m1, m23, rfl, r1, r23⟩ := rows.of_app hrow'
      obtain ⟨m2, m3, rfl, r2, r3⟩ := rows.of_app r23
      have e1 := rows.len (fun x c => K.rd_len w _ q' x c) r1
      have e1' : m1.length = off * q'.size := by rw [e1]; congr 1; simp; omega
      have hcell : cellsAt w rr.blk rr.base (m1 ++ (m2 ++ m3)) := by rw [← hp]; exact cellsAt_block hh
      refine ⟨_, c, m2, by rw [hdl], by rw [hdl]; omega, r2, .inr ⟨rr.blk, rr.base + off * rr.sz, by simp [Bl.addr], by rw [g2, ← e1']; exact hcell.app.2.app.1⟩, fun m' e' => by cases e'; exact ⟨f, _, _, _, _, hf⟩,
        .inr ⟨m, rr, f, _, pre ++ m1, m3 ++ post, rr.cap - off, rfl, hf, hr, by simp [AObj.occ, hreal], by simp [Bl.addr, hp, e1', g2], by rw [hh]; simp, ?_, by omega⟩⟩
      simp only [List.length_append, e1', g2] at hcl ⊢
      rw [Nat.sub_mul]; omega
    · have hl0 : len = 0 := hz
      have : ((xs'.drop off).take len) = [] := List.eq_nil_of_length_eq_zero (by omega)
      refine ⟨A, c, [], by rw [hdl], by rw [hdl]; omega, by rw [this]; rfl, .inl (by rw [hdl]; exact hl0), fun m' e' => by cases e'; exact ⟨f, _, _, _, _, hf⟩, .inl hc0⟩
  · simp at eo

theorem constTV_len (z : Value) : (constTV z).cells.length = z.cells.size := by
  unfold constTV
  split
  · simp [TV.cells, Value.cells]
  · rename_i hne
    have hvc : z.cells = #[z] := by
      unfold Value.cells
      split
      · exact absurd rfl (hne _)
      · rfl
    rw [hvc]; rfl

theorem azero_some {e : TypeId} {z : List AV} (h : azero P e = some z) : ∃ i zv, P.info? e = some i ∧ i.zero = some zv ∧ z = (constTV zv).cells := by
  unfold azero at h
  split at h
  · rename_i i hi
    split at h
    · rename_i zv hz
      simp only [Option.some.injEq] at h
      exact ⟨i, zv, hi, hz, h.symm⟩
    · simp at h
  · simp at h

theorem run_append_gen {t ty e : TypeId} {i : TypeInfo} {z : Value} (ht : P.underlying t = some (.slice e)) (hi : P.info? e = some i) (hz : i.zero = some z) {A B : Option Addr} {n c m c2 : Nat} {olds news : List Value}
    (ho : (Builtin.firstCells i.size n (.slice A n c)).run P w.drew = .ok olds.toArray w.drew) (hn : (Builtin.firstCells i.size m (.slice B m c2)).run P w.drew = .ok news.toArray w.drew)
    (hg : c < n + m) (h63 : ((n + m : Nat) : Int) ≤ 9223372036854775807) (hfit : Builtin.nextslicecap (n + m) c * i.bytes ≤ 281474976710656) :
    (Builtin.append_ #[t, t] ty #[.slice A n c, .slice B m c2]).run P w =
      .ok (.slice (some ⟨w.heap.size, 0, none⟩) (n + m) (grownCap w (n + m) c e)) (w.drew.alloc (.cells (olds.toArray ++ news.toArray ++ Builtin.zeroCells z.cells (grownCap w (n + m) c e - (n + m))) e)) := by
  have hn' : ¬ (n + m ≤ c) := by omega
  have h63' : ¬ (9223372036854775807 < ((n : Int) + (m : Int))) := by omega
  have h48' : ¬ (281474976710656 < Builtin.nextslicecap (n + m) c * i.bytes) := by omega
  simp [Builtin.append_, run_underlying ht, sizeOf, typeInfo, zeroValue, hi, hz, Builtin.lenOf, hn', h63', h48', Question.forced, ho, hn, newRow, grownCap]
  congr 2
  apply Array.ext'
  simp [List.append_assoc]

theorem run_append_in {t ty e : TypeId} {i : TypeInfo} (ht : P.underlying t = some (.slice e)) (hi : P.info? e = some i) {A B : Option Addr} {n c m c2 : Nat} {news : List Value} {w' : World}
    (hn : (Builtin.firstCells i.size m (.slice B m c2)).run P w = .ok news.toArray w) (hg : n + m ≤ c)
    (hs : ∀ b o, A = some ⟨b, o, none⟩ → (storeCells ⟨b, o + n * i.size, none⟩ news).run P w = .ok () w') (hA : (A = none ∧ w' = w) ∨ ∃ b o, A = some ⟨b, o, none⟩) :
    (Builtin.append_ #[t, t] ty #[.slice A n c, .slice B m c2]).run P w = .ok (.slice A (n + m) c) w' := by
  rcases hA with ⟨rfl, rfl⟩ | ⟨b, o, rfl⟩
  · simp [Builtin.append_, run_underlying ht, sizeOf, typeInfo, hi, Builtin.lenOf, hg, hn]
  · have := hs b o rfl
    simp [Builtin.append_, run_underlying ht, sizeOf, typeInfo, hi, Builtin.lenOf, hg, hn, addr_add, this]
end
end Go.Proofs.AM
end
