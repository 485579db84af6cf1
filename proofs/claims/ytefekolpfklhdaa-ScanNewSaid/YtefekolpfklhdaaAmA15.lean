/- Loops as functions; states told by data. -/
import Derived.Test.YtefekolpfklhdaaAmA14
set_option maxRecDepth 2000
set_option linter.unusedVariables false
set_option linter.unusedSimpArgs false
namespace Go.Proofs.AM
open Go Go.RowKit

/-! ### a loop's function -/
def iterM {X E : Type} (f : X → Option (X ⊕ E)) : Nat → X → Option E
  | 0, _ => none
  | n + 1, x => match f x with
    | some (.inl y) => iterM f n y
    | some (.inr e) => some e
    | none => none

theorem iterM_mono {X E : Type} {f : X → Option (X ⊕ E)} {e : E} : ∀ {n : Nat} {x : X}, iterM f n x = some e → ∀ m, n ≤ m → iterM f m x = some e
  | 0, _, h, _, _ => by simp [iterM] at h
  | n + 1, x, h, m, hm => by
    obtain ⟨m, rfl⟩ : ∃ k, m = k + 1 := ⟨m - 1, by omega⟩
    unfold iterM at h ⊢
    split at h
    · exact iterM_mono h m (by omega)
    · exact h
    · simp at h

open Classical in
noncomputable def loopM {X E : Type} (f : X → Option (X ⊕ E)) (x : X) : Option E :=
  if h : ∃ n, (iterM f n x).isSome = true then iterM f (Classical.choose h) x else none

theorem loopM_of {X E : Type} {f : X → Option (X ⊕ E)} {n : Nat} {x : X} {e : E} (h : iterM f n x = some e) : loopM f x = some e := by
  unfold loopM
  have hx : ∃ n, (iterM f n x).isSome = true := ⟨n, by rw [h]; rfl⟩
  rw [dif_pos hx]
  have hc := Classical.choose_spec hx
  obtain ⟨e', he⟩ := Option.isSome_iff_exists.1 hc
  have h1 := iterM_mono h (max n (Classical.choose hx)) (by omega)
  have h2 := iterM_mono he (max n (Classical.choose hx)) (by omega)
  rw [he, ← h2, h1]

theorem loopM_some {X E : Type} {f : X → Option (X ⊕ E)} {x : X} {e : E} (h : loopM f x = some e) : ∃ n, iterM f n x = some e := by
  unfold loopM at h
  split at h
  · exact ⟨_, h⟩
  · simp at h

/-- One round. -/
theorem loopM_eq {X E : Type} (f : X → Option (X ⊕ E)) (x : X) : loopM f x = match f x with
    | some (.inl y) => loopM f y
    | some (.inr e) => some e
    | none => none := by
  cases hx : f x with
  | none =>
    cases h : loopM f x with
    | none => rfl
    | some e =>
      obtain ⟨n, hn⟩ := loopM_some h
      cases n with
      | zero => simp [iterM] at hn
      | succ n => simp [iterM, hx] at hn
  | some y =>
    cases y with
    | inr e => exact loopM_of (n := 1) (by simp [iterM, hx])
    | inl y =>
      show loopM f x = loopM f y
      cases h : loopM f y with
      | some e =>
        obtain ⟨n, hn⟩ := loopM_some h
        exact loopM_of (n := n + 1) (by simp [iterM, hx, hn])
      | none =>
        cases h' : loopM f x with
        | none => rfl
        | some e =>
          obtain ⟨n, hn⟩ := loopM_some h'
          cases n with
          | zero => simp [iterM] at hn
          | succ n =>
            simp only [iterM, hx] at hn
            rw [loopM_of hn] at h; simp at h

/-! ### tuples of data -/
@[reducible] def KU : List K → Type
  | [] => Unit
  | k :: ks => k.den × KU ks

@[reducible] def KT : List K → Type
  | [] => Unit
  | k :: ks => match ks with
    | [] => k.den
    | k' :: r => k.den × KT (k' :: r)

def KT.up : {ks : List K} → KT ks → KU ks
  | [], _ => ()
  | [_], x => (x, ())
  | _ :: k' :: r, x => (x.1, KT.up (ks := k' :: r) x.2)

def KT.down : {ks : List K} → KU ks → KT ks
  | [], _ => ()
  | [_], x => x.1
  | _ :: k' :: r, x => (x.1, KT.down (ks := k' :: r) x.2)

theorem KT.up_down : ∀ {ks : List K} (x : KU ks), KT.up (KT.down x) = x
  | [], _ => rfl
  | [_], _ => rfl
  | _ :: k' :: r, x => by
    show (x.1, KT.up (KT.down (ks := k' :: r) x.2)) = x
    rw [KT.up_down (ks := k' :: r) x.2]

/-! ### what of a state is told by data -/
inductive SK where
  | d (agg : Bool) (k : K) (fr : Bool)
  | v (T : TypeId) (k : K) (fr : Bool)

@[reducible] def SK.kind : SK → K
  | .d _ k _ => k
  | .v _ k _ => .sl k

inductive Item where
  | slot (i : Nat) (sk : SK)
  | cell (l j : Nat) (sk : SK)
  | vec (l : Nat) (T : TypeId) (k : K) (fr : Bool)
  | map (l : Nat) (k v : Bool × K) (fr : Bool)
  | lp (l : Nat) (s : LS)

@[reducible] def Item.kind : Item → K
  | .slot _ sk => sk.kind
  | .cell _ _ sk => sk.kind
  | .vec _ _ k _ => .sl k
  | .map _ k v _ => .sl (.pair k.2 v.2)
  | .lp _ _ => .unit

abbrev LA := List Item
def LA.kinds (la : LA) : List K := la.map Item.kind

/-- An owned row of cells behind a value. -/
def decV (h : Heap) (T : TypeId) (k : K) (fr : Bool) : AV → Option (List k.den × Option Nat)
  | .nilsl => some ([], none)
  | .vf l => match hat h l with
    | .vec T' k' xs f => if T' = T ∧ (!fr || f) = true then (if e : k' = k then some (e ▸ xs, some l) else none) else none
    | _ => none
  | _ => none

def decS (h : Heap) : (sk : SK) → TV → Option (sk.kind.den × Option Nat)
  | .d agg k fr, t => match (match agg, t with
      | true, .agg cs => K.of h false k cs
      | false, .one a => K.of h false k [a]
      | _, _ => none) with
    | some (x, f) => if (!fr || f) = true then some (x, none) else none
    | none => none
  | .v T k fr, t => match t with
    | .one a => decV h T k fr a
    | _ => none

def decI (s : AS) : (it : Item) → Option (it.kind.den × Option Nat)
  | .slot i sk => match s.tmps[i]? with
    | some t => decS s.heap sk t
    | none => none
  | .cell l j sk => match hat s.heap l with
    | .box _ cs => match cs[j]? with
      | some c => decS s.heap sk (.one c)
      | none => none
    | _ => none
  | .vec l T k fr => match hat s.heap l with
    | .vec T' k' xs f => if T' = T ∧ (!fr || f) = true then (if e : k' = k then some (e ▸ xs, none) else none) else none
    | _ => none
  | .map l k v fr => match hat s.heap l with
    | .map k' v' es f => if (!fr || f) = true then (if e : k' = k then (if e' : v' = v then some (e ▸ e' ▸ es, none) else none) else none) else none
    | _ => none
  | .lp l st => match hat s.heap l with
    | .lp st' => if st' = st then some ((), none) else none
    | _ => none

/-- Whether an item makes an object of its own. -/
def Item.owns : Item → Bool
  | .slot _ (.v ..) | .cell _ _ (.v ..) => true
  | _ => false

/-- The data, and where the owned rows of cells lie ('none': nowhere yet). -/
def decL (s : AS) : (la : List Item) → Option (KU (LA.kinds la) × List (Option Nat))
  | [] => some ((), [])
  | it :: r => match decI s it, decL s r with
    | some (x, l), some (y, ls) => some ((x, y), if it.owns then l :: ls else ls)
    | _, _ => none

def encS (n : Nat) : (sk : SK) → sk.kind.den → TV
  | .d agg k fr, x => (shapeTV agg (K.cells fr k x)).getD (.one .junk)
  | .v _ _ _, _ => .one (.vf n)

def encO (hd : Bool) : (sk : SK) → sk.kind.den → Heap
  | .d _ _ _, _ => []
  | .v T k fr, x => [(!hd, .vec T k x fr)]

def encI (hd : Bool) : (it : Item) → it.kind.den → List TV × Heap → List TV × Heap
  | .slot i sk, x, (t, h) => (t.set i (encS h.length sk x), h ++ encO hd sk x)
  | .cell l j sk, x, (t, h) => match hat h l with
    | .box T cs => (t, h.set l (!hd, .box T (cs.set j (match encS h.length sk x with | .one a => a | _ => .junk))) ++ encO hd sk x)
    | _ => (t, h)
  | .vec l T k fr, x, (t, h) => (t, h.set l (!hd, .vec T k x fr))
  | .map l k v fr, x, (t, h) => (t, h.set l (!hd, .map k v x fr))
  | .lp l st, _, (t, h) => (t, h.set l (!hd, .lp st))

def encL (hd : Bool) : (la : List Item) → KU (LA.kinds la) → List TV × Heap → List TV × Heap
  | [], _, th => th
  | it :: r, x, th => encL hd r x.2 (encI hd it x.1 th)

/-- The boxes of which cells are told. -/
def boxesOf : List Item → List Nat
  | [] => []
  | .cell l _ _ :: r => l :: boxesOf r
  | _ :: r => boxesOf r

def vecsOf : List Item → List Nat
  | [] => []
  | .vec l _ _ _ :: r => l :: vecsOf r
  | .map l _ _ _ :: r => l :: vecsOf r
  | .lp l _ :: r => l :: vecsOf r
  | _ :: r => vecsOf r

def junkAll (D : List Nat) (t : List TV) : List TV := D.foldl (fun t i => t.set i (.one .junk)) t

def AObj.clear : AObj → AObj
  | .box T cs => .box T (cs.map fun _ => .junk)
  | .vec _ _ _ _ => .dead
  | .map _ _ _ _ => .dead
  | .lp _ => .dead
  | o => o

/-- An object that is told as a whole. -/
def AObj.whole : AObj → Bool
  | .vec _ _ _ _ => true
  | .map _ _ _ _ => true
  | .lp _ => true
  | _ => false

def AObj.isMark : AObj → Bool
  | .mark => true
  | _ => false

/-- The objects ahead: those that go ('ks'), those that are told anew ('bs'), the rest. 'hd': at a loop's head no object has turned yet. -/
def baseObj (hd : Bool) (ks bs : List Nat) (o : Bool × AObj) (l : Nat) : Bool × AObj :=
  if ks.contains l then (!hd, .dead) else if bs.contains l then (!hd, o.2.clear) else (if hd then o.1 && o.2.isMark else o.1, o.2)

def baseHeapFrom (hd : Bool) (ks bs : List Nat) : Heap → Nat → Heap
  | [], _ => []
  | o :: h, l => baseObj hd ks bs o l :: baseHeapFrom hd ks bs h (l + 1)

/-- A state, told by data over the state that it comes of. -/
def enc (hd : Bool) (s0 : AS) (D : List Nat) (ks : List Nat) (la : List Item) (x : KT (LA.kinds la)) : AS :=
  let th := encL hd la (KT.up x) (junkAll D s0.tmps, baseHeapFrom hd ks (boxesOf la ++ vecsOf la) s0.heap 0)
  { s0 with tmps := th.1, heap := th.2 }

def slotsOf : List Item → List Nat
  | [] => []
  | .slot i _ :: r => i :: slotsOf r
  | _ :: r => slotsOf r

def nodupO : List (Option Nat) → Bool
  | [] => true
  | none :: r => nodupO r
  | some l :: r => !r.contains (some l) && nodupO r

/-- Whether a state may be told so over the state that it comes of. -/
def okL (h0 h : Heap) (D ks : List Nat) (la : List Item) (ls : List (Option Nat)) : Bool :=
  (slotsOf la).all D.contains &&
  (boxesOf la).all (fun l => decide (l < h0.length) && match hat h0 l, hat h l with
    | .box T cs, .box T' cs' => T == T' && cs.length == cs'.length
    | _, _ => false) &&
  (vecsOf la).all (fun l => decide (l < h0.length) && (hat h0 l).whole) &&
  ls.all (fun | none => true | some l => ks.contains l || decide (h0.length ≤ l)) &&
  nodupO ls && ks.all (fun l => !(hat h0 l).isMark && !(boxesOf la ++ vecsOf la).contains l)

/-- Whether all but the objects that are told have stayed as they were at the head. -/
def unchFrom (skip : List Nat) : Heap → Heap → Nat → Bool
  | [], _, _ => true
  | _ :: _, [], _ => false
  | o :: h0, p :: h, l => (skip.contains l || !p.1 || (o.1 && o.2.isMark)) && unchFrom skip h0 h (l + 1)
end Go.Proofs.AM
