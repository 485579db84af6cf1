/- The abstract machine's steps, as functions that the kernel reckons. -/
import Derived.Test.YtefekolpfklhdaaAmA2
set_option maxRecDepth 2000
set_option linter.unusedVariables false
set_option linter.unusedSimpArgs false
namespace Go.Proofs.AM
open Go Go.RowKit

abbrev Heap := List (Bool × AObj)

def hat (h : Heap) (l : Nat) : AObj := match h[l]? with
  | some o => o.2
  | none => .dead

/-! ### data -/
def K.dflt : (k : K) → k.den
  | .int _ => (0 : Int)
  | .bool => false
  | .str => ByteArray.empty
  | .unit => ()
  | .pair a b => (a.dflt, b.dflt)
  | .sl _ => []
  | .rp k => k.dflt

def K.cells (fr : Bool) : (k : K) → k.den → List AV
  | .pair a b, x => K.cells fr a x.1 ++ K.cells fr b x.2
  | .unit, _ => []
  | .int k, x => [.dat (.int k) x true]
  | .bool, x => [.dat .bool x true]
  | .str, x => [.dat .str x true]
  | .sl k, x => [.dat (.sl k) x fr]
  | .rp k, x => [.dat (.rp k) x fr]

/-- What is owned, read as data. -/
def AV.bor (h : Heap) : AV → AV
  | .vf l => match hat h l with
    | .vec _ k xs fr => .dat (.sl k) xs fr
    | _ => .junk
  | .vw l off len => match hat h l with
    | .vec _ k xs fr => .dat (.sl k) ((xs.drop off).take len) fr
    | _ => .junk
  | a => a

/-- One cell as a datum of a kind that takes one. -/
def AV.toD (k : K) : AV → Option (k.den × Bool)
  | .dat k' x fr => if e : k' = k then some (e ▸ x, fr || k.flat) else none
  | .nilsl => match k with
    | .sl _ => some ([], true)
    | _ => none
  | _ => none

/-- Cells as a datum; what is left of them. 'B': what is owned may be borrowed. -/
def K.ofs (h : Heap) (B : Bool) : (k : K) → List AV → Option (k.den × Bool × List AV)
  | .pair a b, l => match K.ofs h B a l with
    | some (x, f, l1) => match K.ofs h B b l1 with
      | some (y, g, l2) => some ((x, y), f && g, l2)
      | none => none
    | none => none
  | .unit, l => some ((), true, l)
  | .rp k, a :: l => match a with
    | .ro k' x off fr => if e : k' = k then (if off = 0 then some (e ▸ x, fr, l) else none) else none
    | .dat k' x fr => if e : k' = .rp k then some (e ▸ x, fr, l) else none
    | .ptr m off => match B, hat h m with
      | true, .box _ cs => match K.ofs h B k (cs.drop off) with
        | some (x, f, _) => some (x, f, l)
        | none => none
      | _, _ => none
    | _ => none
  | k, a :: l => match AV.toD k (if B then a.bor h else a) with
    | some (x, f) => some (x, f, l)
    | none => none
  | _, [] => none

def K.of (h : Heap) (B : Bool) (k : K) (l : List AV) : Option (k.den × Bool) :=
  match K.ofs h B k l with
  | some (x, f, []) => some (x, f)
  | _ => none

def AV.isOne : AV → Bool
  | .junk => false
  | _ => true

/-! ### operands -/
def constAV : Value → AV
  | .int k n => .dat (.int k) n true
  | .bool b => .dat .bool b true
  | .string s => .dat .str s true
  | .slice none 0 0 => .nilsl
  | .nilFunc => .nilf
  | .pointer none => .nilp
  | .nilIface => .nili
  | _ => .junk

def constTV : Value → TV
  | .agg cs => .agg (cs.toList.map constAV)
  | v => .one (constAV v)

def AS.ev (s : AS) : Operand → TV
  | .tmp t => (s.tmps[t]?).getD (.one .junk)
  | .const v => constTV v
  | .func f => .one (.fn f [])
  | .global _ => .one .junk

def TV.cells : TV → List AV
  | .one a => [a]
  | .agg cs => cs
  | .tup _ => []

def isAggT (P : Program) (t : TypeId) : Bool := match P.underlying t with
  | some (.struct _) | some (.array _ _) => true
  | _ => false

/-- Cells as a value of a type. -/
def shapeTV (agg : Bool) (cs : List AV) : Option TV :=
  match agg, cs with
  | true, cs => some (.agg cs)
  | false, [a] => some (.one a)
  | _, _ => none

section
variable {R : Type}

def gd (c : Prop) [Decidable c] (x : Option R) : Option R := if c then x else none

/-- A value's cells, from a place on. -/
def cut (P : Program) (t : TypeId) (cs : List AV) (off : Nat) (k : TV → Option R) : Option R :=
  match P.underlying t, P.info? t with
  | some _, some i =>
    let c := (cs.drop off).take i.size
    if c.length = i.size then
      match shapeTV (isAggT P t) c with
      | some tv => k tv
      | none => none
    else none
  | _, _ => none

def aload (P : Program) (h : Heap) (t : TypeId) (a : AV) (k : TV → Option R) : Option R :=
  match a with
  | .ptr l off => match hat h l with
    | .box _ cs => cut P t cs off k
    | _ => none
  | .ro q x off fr => cut P t (K.cells fr q x) off k
  | .dat (.rp q) x fr => cut P t (K.cells fr q x) 0 k
  | .vp l i off => match hat h l with
    | .vec _ q xs fr => gd (i < xs.length) (cut P t (K.cells fr q (xs.getD i q.dflt)) off k)
    | _ => none
  | _ => none

/-! ### shifts and bits -/
def ishl (k : IntKind) (x y : Int) : Int := k.wrap (x * 2 ^ (min y.toNat k.bits))
def ishr (k : IntKind) (x y : Int) : Int := x.fdiv (2 ^ (min y.toNat k.bits))
def iand (k : IntKind) (x y : Int) : Int := k.wrap (BitVec.ofInt k.bits x &&& BitVec.ofInt k.bits y).toNat
def ior (k : IntKind) (x y : Int) : Int := k.wrap (BitVec.ofInt k.bits x ||| BitVec.ofInt k.bits y).toNat
def ixor (k : IntKind) (x y : Int) : Int := k.wrap (BitVec.ofInt k.bits x ^^^ BitVec.ofInt k.bits y).toNat
def iandn (k : IntKind) (x y : Int) : Int := k.wrap (BitVec.ofInt k.bits x &&& ~~~ BitVec.ofInt k.bits y).toNat

def abin (op : BinOp) (kx : IntKind) (x : Int) (ky : IntKind) (y : Int) (k : TV → Option R) : Option R :=
  let int (n : Int) := k (.one (.dat (.int kx) n true))
  let bool (b : Bool) := k (.one (.dat .bool b true))
  match op with
  | .shl => gd (0 ≤ y) (int (ishl kx x y))
  | .shr => gd (0 ≤ y) (int (ishr kx x y))
  | _ => if kx = ky then match op with
    | .add => int (kx.wrap (x + y))
    | .sub => int (kx.wrap (x - y))
    | .mul => int (kx.wrap (x * y))
    | .quo => if y = 0 then none else int (kx.wrap (x.tdiv y))
    | .rem => if y = 0 then none else int (x.tmod y)
    | .and => int (iand kx x y)
    | .or => int (ior kx x y)
    | .xor => int (ixor kx x y)
    | .andNot => int (iandn kx x y)
    | .eql => bool (x == y)
    | .neq => bool (x != y)
    | .lss => bool (decide (x < y))
    | .leq => bool (decide (x ≤ y))
    | .gtr => bool (decide (x > y))
    | .geq => bool (decide (x ≥ y))
    | _ => none
    else none

/-- The length of what may be a slice. -/
def alen (h : Heap) : AV → Option Int
  | .dat (.sl _) xs _ => some (List.length xs : Int)
  | .nilsl => some 0
  | .vf l => match hat h l with
    | .vec _ _ xs _ => some (xs.length : Int)
    | _ => none
  | .vw _ _ len => some (len : Int)
  | _ => none

def afields (P : Program) (t : TypeId) (i : Nat) : Option Field := match P.underlying t with
  | some (.struct fs) => fs[i]?
  | _ => none

def aelem (P : Program) (t : TypeId) : Option TypeId := match P.underlying t with
  | some (.slice e) => some e
  | _ => none

def afieldAddr (P : Program) (f : Field) (a : AV) (k : TV → Option R) : Option R :=
  if P.cellsOf f.type = 0 then none else
  match a with
  | .ptr l off => k (.one (.ptr l (off + f.offset)))
  | .ro q x off fr => k (.one (.ro q x (off + f.offset) fr))
  | .dat (.rp q) x fr => k (.one (.ro q x f.offset fr))
  | .vp l i off => k (.one (.vp l i (off + f.offset)))
  | _ => none

def szOk (P : Program) (e : TypeId) (n : Nat) (x : Option R) : Option R := match P.info? e with
  | some i => if i.size = n then x else none
  | none => none

def aindexAddr (P : Program) (h : Heap) (e : TypeId) (a : AV) (i : Int) (k : TV → Option R) : Option R :=
  match a with
  | .dat (.sl q) xs fr => szOk P e q.size (gd (0 ≤ i) (gd (i < (List.length xs : Int)) (k (.one (.ro q (List.getD xs i.toNat q.dflt) 0 fr)))))
  | .vf l => match hat h l with
    | .vec _ q xs _ => szOk P e q.size (gd (0 ≤ i) (gd (i < (xs.length : Int)) (k (.one (.vp l i.toNat 0)))))
    | _ => none
  | .vw l off len => match hat h l with
    | .vec _ q _ _ => szOk P e q.size (gd (0 ≤ i) (gd (i < (len : Int)) (k (.one (.vp l (off + i.toNat) 0)))))
    | _ => none
  | _ => none

/-- How many cells an element of a slice takes. -/
def asz (h : Heap) : AV → Option Nat
  | .dat (.sl q) _ _ => some q.size
  | .vf l | .vw l _ _ => match hat h l with
    | .vec _ q _ _ => some q.size
    | _ => none
  | _ => none

/-- A slice's bounds, as numbers. -/
def abound (s : AS) (d : Int) : Option Operand → Option Int
  | none => some d
  | some x => match s.ev x with
    | .one (.dat (.int _) n _) => some n
    | _ => none

def aslice (h : Heap) (a : AV) (lo hi n : Int) (k : TV → Option R) : Option R :=
  gd (0 ≤ lo) (gd (lo ≤ hi) (gd (hi ≤ n) (match a with
  | .dat (.sl q) xs fr => k (.one (.dat (.sl q) (List.take (hi.toNat - lo.toNat) (List.drop lo.toNat xs)) fr))
  | .vf l => k (.one (.vw l lo.toNat (hi.toNat - lo.toNat)))
  | .vw l off _ => k (.one (.vw l (off + lo.toNat) (hi.toNat - lo.toNat)))
  | _ => none)))

/-- Some cells laid over others. -/
def splice (cs : List AV) (off : Nat) (new : List AV) : List AV := cs.take off ++ new ++ cs.drop (off + new.length)

/-- A value's cells, where each is one. -/
def TV.solid : TV → Bool
  | .one a => a.isOne
  | .agg _ => true
  | .tup _ => false

/-- The parts of a struct laid into its zero cells. -/
def afill (place : Nat → Option (Nat × Nat)) (cells : List AV) : List (Nat × TV) → Option (List AV)
  | [] => some cells
  | (i, v) :: rest => match place i with
    | none => none
    | some (off, size) =>
      if v.solid = true ∧ v.cells.length = size ∧ off + size ≤ cells.length then afill place (splice cells off v.cells) rest else none

def azero (P : Program) (t : TypeId) : Option (List AV) := match P.info? t with
  | some i => match i.zero with
    | some z => some (constTV z).cells
    | none => none
  | none => none

def placesOf (P : Program) (t : TypeId) : Option (List (Nat × Nat)) := match P.underlying t with
  | some (.struct fs) => fs.toList.mapM fun f => (P.info? f.type).map fun i => (f.offset, i.size)
  | _ => none

def capsOf : List TV → Option (List Nat)
  | [] => some []
  | .one (.ptr l 0) :: r => match capsOf r with
    | some ls => some (l :: ls)
    | none => none
  | _ => none

def intsOf : List TV → Option (List (IntKind × Int))
  | [] => some []
  | .one (.dat (.int k) n _) :: r => match intsOf r with
    | some ls => some ((k, n) :: ls)
    | none => none
  | _ => none

/-! ### maps -/
/-- The same key: of a kind without memory behind it. -/
def K.beq : (k : K) → k.den → k.den → Bool
  | .int _, x, y => x == y
  | .bool, x, y => x == y
  | .str, x, y => x == y
  | .unit, _, _ => true
  | .pair a b, x, y => K.beq a x.1 y.1 && K.beq b x.2 y.2
  | _, _, _ => false

def mhas (k : Bool × K) {V : Type} (es : List (k.2.den × V)) (x : k.2.den) : Bool := match es with
  | [] => false
  | p :: r => k.2.beq x p.1 || mhas k r x

def mget (k : Bool × K) {V : Type} (es : List (k.2.den × V)) (x : k.2.den) (z : V) : V := match es with
  | [] => z
  | p :: r => cond (k.2.beq x p.1) p.2 (mget k r x z)

def mset (k : Bool × K) {V : Type} (es : List (k.2.den × V)) (x : k.2.den) (y : V) : List (k.2.den × V) := match es with
  | [] => [(x, y)]
  | p :: r => cond (k.2.beq x p.1) ((x, y) :: r) (p :: mset k r x y)

def mdel (k : Bool × K) {V : Type} (es : List (k.2.den × V)) (x : k.2.den) : List (k.2.den × V) := match es with
  | [] => []
  | p :: r => cond (k.2.beq x p.1) r (p :: mdel k r x)

/-- A key's type: numbers, bools, texts, as they are told apart. -/
def keyOkS (P : Program) (t : TypeId) (k : Bool × K) : Bool := match P.underlying t, k with
  | some (.int q), (false, .int q') => q == q'
  | some .bool, (false, .bool) => true
  | some .string, (false, .str) => true
  | _, _ => false

/-- A struct's fields, for a key. -/
def keyFs (P : Program) (f : TypeId → K → Bool) : List Field → Nat → K → Bool
  | [], _, _ => false
  | [g], off, k => g.name != "_" && g.offset == off && ((P.info? g.type).map (·.size) == some k.size && f g.type k)
  | g :: h :: r, off, .pair a b => g.name != "_" && g.offset == off && ((P.info? g.type).map (·.size) == some a.size && f g.type a) && keyFs P f (h :: r) (off + a.size) b
  | _, _, _ => false

def keyEq (P : Program) : Nat → TypeId → K → Bool
  | 0, _, _ => false
  | n + 1, t, k => match P.underlying t with
    | some (.int q) => (match k with
      | .int q' => q == q'
      | _ => false)
    | some .bool => (match k with
      | .bool => true
      | _ => false)
    | some (.struct fs) => !P.stoodInHeld t && keyFs P (keyEq P n) fs.toList 0 k
    | _ => false

def keyOkW (P : Program) (t : TypeId) (k : Bool × K) : Bool := match P.underlying t, k with
  | some (.struct _), (true, q) => keyEq P 8 t q
  | _, _ => false

def keyOk (P : Program) (t : TypeId) (k : Bool × K) : Bool := keyOkS P t k || keyOkW P t k

/-- A value as a datum of a kind. -/
def decT (h : Heap) (k : Bool × K) : TV → Option (k.2.den × Bool)
  | .agg cs => match k.1 with
    | true => K.of h false k.2 cs
    | false => none
  | .one a => match k.1 with
    | true => none
    | false => K.of h false k.2 [a]
  | .tup _ => none

/-- A type's zero value as a datum of a kind. -/
def zeroD (P : Program) (h : Heap) (t : TypeId) (k : Bool × K) : Option k.2.den := match P.info? t with
  | some i => match i.zero with
    | some zv => match decT h k (constTV zv) with
      | some (zd, true) => some zd
      | _ => none
    | none => none
  | none => none

def alookup (P : Program) (h : Heap) (t : TypeId) (x i : TV) (ok : Bool) (k : TV → Option R) : Option R :=
  match P.underlying t, x with
  | some (.map kt vt), .one (.mp l) => match hat h l with
    | .map ki vi es fr => if keyOk P kt ki = true then match decT h ki i, zeroD P h vt vi with
      | some (xk, _), some z => match ok with
        | true => k (.tup [(vi.1, vi.2.cells fr (mget ki es xk z)), (false, [.dat .bool (mhas ki es xk) true])])
        | false => match shapeTV vi.1 (vi.2.cells fr (mget ki es xk z)) with
          | some tv => k tv
          | none => none
      | _, _ => none
      else none
    | _ => none
  | _, _ => none

/-- What is held against nil. -/
def anilEq (P : Program) (t : TypeId) (u v : AV) : Option Bool := match P.underlying t with
  | some (.pointer _) => match u, v with
    | .nilp, .nilp => some true
    | .ptr _ _, .nilp => some false
    | .ro _ _ _ _, .nilp => some false
    | .vp _ _ _, .nilp => some false
    | _, _ => none
  | some (.func _ _ _) => match u, v with
    | .nilf, .nilf => some true
    | .fn _ _, .nilf => some false
    | _, _ => none
  | some (.interface _) => match u, v with
    | .ifc _ _, .nili => some false
    | _, _ => none
  | some .bool => match u, v with
    | .dat .bool a _, .dat .bool b _ => some (cond a b (!b))
    | _, _ => none
  | _ => none

/-- The built-in functions that only make a value. -/
def abuiltin (P : Program) (s : AS) (c : Call) (k : TV → Option R) : Option R :=
  match c.callee with
  | .builtin .len => match c.args.toList, c.argTypes.toList with
    | [x], [t] => match aelem P t, s.ev x with
      | some _, .one a => match alen s.heap a with
        | some n => k (.one (.dat (.int .i64) n true))
        | none => none
      | none, .one (.mp l) => match P.underlying t, hat s.heap l with
        | some (.map _ _), .map _ _ es _ => k (.one (.dat (.int .i64) (es.length : Int) true))
        | _, _ => none
      | _, _ => none
    | _, _ => none
  | .builtin .max => match intsOf (c.args.toList.map s.ev) with
    | some ((q, n) :: r) => k (.one (.dat (.int q) (r.foldl (fun x y => if y.2 > x then y.2 else x) n) true))
    | _ => none
  | .builtin .min => match intsOf (c.args.toList.map s.ev) with
    | some ((q, n) :: r) => k (.one (.dat (.int q) (r.foldl (fun x y => if y.2 < x then y.2 else x) n) true))
    | _ => none
  | _ => none

/-- '==' of structs, field by field. -/
def aeqFields (P : Program) (f : TypeId → TV → TV → Option Bool) (xs ys : List AV) : List Field → Option Bool
  | [] => some true
  | g :: r => if g.name = "_" then none else match cut P g.type xs g.offset some, cut P g.type ys g.offset some with
    | some a, some b => match f g.type a b with
      | some p => match r with
        | [] => some p
        | _ => match aeqFields P f xs ys r with
          | some q => some (p && q)
          | none => none
      | none => none
    | _, _ => none

def aeq (P : Program) : Nat → TypeId → TV → TV → Option Bool
  | 0, _, _, _ => none
  | n + 1, t, x, y => match P.underlying t, x, y with
    | some .bool, .one (.dat .bool a _), .one (.dat .bool b _) => some (a == b)
    | some (.int _), .one (.dat (.int k) a _), .one (.dat (.int k') b _) => if k = k' then some (a == b) else none
    | some (.struct fs), .agg xs, .agg ys => if P.stoodInHeld t = true then none else aeqFields P (aeq P n) xs ys fs.toList
    | _, _, _ => none

/-- An operation that only makes a value. -/
def aval (P : Program) (s : AS) (o : Oper) (k : TV → Option R) : Option R :=
  match o.op with
  | .move x | .assign x => k (s.ev x)
  | .pick c a b => match s.ev c with
    | .one (.dat .bool t _) => match s.ev a, s.ev b with
      | .one (.dat .bool x _), .one (.dat .bool y _) => k (.one (.dat .bool (cond t x y) true))
      | x, y => cond t (k x) (k y)
    | _ => none
  | .load t x => match s.ev x with
    | .one a => aload P s.heap t a k
    | _ => none
  | .nilCheck x => match s.ev x with
    | .one (.ptr l off) => k (.one (.ptr l off))
    | .one (.fn f c) => k (.one (.fn f c))
    | .one (.ro q x off fr) => k (.one (.ro q x off fr))
    | .one (.dat (.rp q) x fr) => k (.one (.dat (.rp q) x fr))
    | _ => none
  | .binOp op t x y _ => match s.ev x, s.ev y with
    | .one (.dat (.int kx) m _), .one (.dat (.int ky) n _) => abin op kx m ky n k
    | .agg xs, .agg ys => if P.eqGuardType P.depth t = true then none else match op with
      | .eql => match aeq P 8 t (.agg xs) (.agg ys) with
        | some b => k (.one (.dat .bool b true))
        | none => none
      | .neq => match aeq P 8 t (.agg xs) (.agg ys) with
        | some b => k (.one (.dat .bool (!b) true))
        | none => none
      | _ => none
    | .one u, .one v => match anilEq P t u v with
      | some b => match op with
        | .eql => k (.one (.dat .bool b true))
        | .neq => k (.one (.dat .bool (!b) true))
        | _ => none
      | none => none
    | _, _ => none
  | .unOp op _ x => match op, s.ev x with
    | .not, .one (.dat .bool b _) => k (.one (.dat .bool (!b) true))
    | .neg, .one (.dat (.int q) n _) => k (.one (.dat (.int q) (q.wrap (0 - n)) true))
    | _, _ => none
  | .convert src dst x => match P.underlying src, P.underlying dst, s.ev x with
    | some _, some (.int kd), .one (.dat (.int _) n _) => k (.one (.dat (.int kd) (kd.wrap n) true))
    | _, _, _ => none
  | .makeFunc (.func f) first captured => match first.toList, capsOf (captured.toList.map s.ev) with
    | [], some ls => k (.one (.fn f ls))
    | _, _ => none
  | .extract x i => match s.ev x with
    | .tup cs => match cs[i]? with
      | some (agg, c) => match shapeTV agg c with
        | some tv => k tv
        | none => none
      | none => none
    | _ => none
  | .fieldAddr t x i => match afields P t i, s.ev x with
    | some f, .one a => afieldAddr P f a k
    | _, _ => none
  | .field t x i => match afields P t i, s.ev x with
    | some f, .agg cs => cut P f.type cs f.offset k
    | _, _ => none
  | .indexAddr t x i => match aelem P t, s.ev x, s.ev i with
    | some e, .one a, .one (.dat (.int _) n _) => aindexAddr P s.heap e a n k
    | _, _, _ => none
  | .slice t x lo hi none => match aelem P t, s.ev x with
    | some e, .one a => match alen s.heap a, asz s.heap a with
      | some n, some z => match abound s 0 lo, abound s n hi with
        | some l, some h => szOk P e z (aslice s.heap a l h n k)
        | _, _ => none
      | _, _ => none
    | _, _ => none
  | .build t parts => match azero P t, placesOf P t with
    | some z, some ps => match afill (ps.toArray[·]?) z (parts.toList.map fun (i, x) => (i, s.ev x)) with
      | some cs => k (.agg cs)
      | none => none
    | _, _ => none
  | .call c => abuiltin P s c k
  | .makeInterface t x => match P.underlying t, s.ev x with
    | some (.interface _), _ => none
    | some _, .one a => match a with
      | .junk => none
      | a => k (.one (.ifc t a))
    | _, _ => none
  | _ => none
end
end Go.Proofs.AM
