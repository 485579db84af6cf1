/- A machine that reckons what a function of the program comes to, and that what it reckons is what the program does. No condition. -/
import Derived.Test.YtmengjdjjnhajaaAmc
import Derived.ChangeArms
import Derived.WideShapes
import Derived.Carry
import Derived.ChangeShapes
import Derived.OpenShut
import Derived.SizedLaws
set_option maxRecDepth 2000
set_option linter.unusedVariables false
set_option linter.unusedSimpArgs false
section
/- Functions that hand out rows of cells of their own among their results. -/
namespace Go.Proofs.AM
open Go Go.RowKit

/-- Which parts of a datum are rows of cells of one's own. -/
inductive M where
  | d
  | p (a b : M)
  | s (T : TypeId)

/-- A datum's cells, where the rows of one's own are objects from 'n' on; these. -/
def encM (fr : Bool) : M → Nat → (k : K) → k.den → List AV × List AObj
  | .p a b, n, .pair ka kb, x => ((encM fr a n ka x.1).1 ++ (encM fr b (n + (encM fr a n ka x.1).2.length) kb x.2).1, (encM fr a n ka x.1).2 ++ (encM fr b (n + (encM fr a n ka x.1).2.length) kb x.2).2)
  | .s T, n, .sl k, x => ([.vf n], [.vec T k x fr])
  | _, _, k, x => (K.cells fr k x, [])

/-- Cells as such a datum, where its rows lie (and how long their elements are), and the cells behind. 'nf': only what is new. -/
def decM (h : Heap) (nf : Bool) : M → (k : K) → List AV → Option (k.den × List (Option Nat × Nat) × List AV)
  | .p a b, .pair ka kb, l => match decM h nf a ka l with
    | some (x, ls, l1) => match decM h nf b kb l1 with
      | some (y, ls', l2) => some ((x, y), ls ++ ls', l2)
      | none => none
    | none => none
  | .s T, .sl k, a :: l => match decV h T k nf a with
    | some (x, o) => some (x, [(o, k.size)], l)
    | none => none
  | .d, k, l => match K.ofs h false k l with
    | some (x, f, l2) => if (!nf || f) = true then some (x, [], l2) else none
    | none => none
  | _, _, _ => none

/-- What is said of such cells. -/
def rdM (w : World) (N : Nat → Prop) : M → (k : K) → k.den → List Value → List Bl → Prop
  | .p a b, .pair ka kb, x, cs, δ => ∃ c d δ1 δ2, cs = c ++ d ∧ δ = δ1 ++ δ2 ∧ rdM w N a ka x.1 c δ1 ∧ rdM w N b kb x.2 d δ2
  | .s T, .sl k, x, cs, δ => ∃ r A c, δ = [r] ∧ cs = [.slice A r.n c] ∧ r.n ≤ c ∧ r.slice A 0 r.n c ∧ (AObj.vec T k x false).R w N N [] r
  | .d, k, x, cs, δ => δ = [] ∧ k.rd w N x cs
  | _, _, _, _, _ => False

def valM (w : World) (N : Nat → Prop) (p : Bool × K) (m : M) (x : p.2.den) (v : Value) (δ : List Bl) : Prop :=
  match p.1 with
  | true => ∃ cs : List Value, v = .agg cs.toArray ∧ rdM w N m p.2 x cs δ
  | false => rdM w N m p.2 x [v] δ

def argsM (w : World) (N : Nat → Prop) : (rs : List (Bool × K)) → List M → PDen rs → List Value → List Bl → Prop
  | [], [], _, vs, δ => vs = [] ∧ δ = []
  | p :: rs, m :: ms, x, vs, δ => ∃ v vs' δ1 δ2, vs = v :: vs' ∧ δ = δ1 ++ δ2 ∧ valM w N p m x.1 v δ1 ∧ argsM w N rs ms x.2 vs' δ2
  | _, _, _, _, _ => False

def resM (w : World) (N : Nat → Prop) (rs : List (Bool × K)) (ms : List M) (y : PDen rs) (v : Value) (δ : List Bl) : Prop :=
  ∃ vs : List Value, v = (if h : vs.toArray.size = 1 then vs.toArray[0] else .tuple vs.toArray) ∧ argsM w N rs ms y vs δ

def encMs (fr : Bool) : (rs : List (Bool × K)) → List M → Nat → PDen rs → List (Bool × List AV) × List AObj
  | [], _, _, _ => ([], [])
  | p :: rs, [], n, x => ((p.1, K.cells fr p.2 x.1) :: (encMs fr rs [] n x.2).1, (encMs fr rs [] n x.2).2)
  | p :: rs, m :: ms, n, x => ((p.1, (encM fr m n p.2 x.1).1) :: (encMs fr rs ms (n + (encM fr m n p.2 x.1).2.length) x.2).1, (encM fr m n p.2 x.1).2 ++ (encMs fr rs ms (n + (encM fr m n p.2 x.1).2.length) x.2).2)

def resTV : List (Bool × List AV) → TV
  | [(b, cs)] => (shapeTV b cs).getD (.one .junk)
  | l => .tup l

def cellsOfT : Bool → TV → Option (List AV)
  | true, .agg cs => some cs
  | false, .one a => some [a]
  | _, _ => none

def decMs (h : Heap) (nf : Bool) : (rs : List (Bool × K)) → List M → List TV → Option (PDen rs × List (Option Nat × Nat))
  | [], [], [] => some ((), [])
  | p :: rs, m :: ms, t :: ts => match cellsOfT p.1 t with
    | some cs => match decM h nf m p.2 cs, decMs h nf rs ms ts with
      | some (x, ls, []), some (y, ls') => some ((x, y), ls ++ ls')
      | _, _ => none
    | none => none
  | _, _, _ => none

structure OM where
  ps : List (Bool × K)
  rs : List (Bool × K)
  ms : List M
  share : Bool
  model : PDen ps → Option (PDen rs)

def Apart (δ : List Bl) : Prop := ∀ (i j : Nat) (ri rj : Bl), δ[i]? = some ri → δ[j]? = some rj → ri.real = true → rj.real = true → ri.blk = rj.blk → i = j

def OM.Sound (P : Program) (f : FuncId) (c : OM) : Prop :=
  (∀ args w, (callFunc f args).run P w = .ok (.enter f args) w) ∧
  ∀ (x : PDen c.ps) (y : PDen c.rs), c.model x = some y → ∀ (w : World) (N : Nat → Prop) (args : List Value), (∀ b, N b → b < w.heap.size) → argsR w N c.ps x args →
    Calls P f args.toArray w fun e w' => ∃ v δ, e = .returned v ∧ Grew w w' ∧ (∀ r ∈ δ, r.real = true → w.heap.size ≤ r.blk ∧ r.blk < w'.heap.size) ∧ Apart δ ∧
      resM w' (fun b => ((c.share = true ∧ N b) ∨ (w.heap.size ≤ b ∧ b < w'.heap.size)) ∧ ∀ r ∈ δ, r.real = true → b ≠ r.blk) c.rs c.ms y v δ

def afinM (P : Program) (fn : Func) (rs : List (Bool × K)) (ms : List M) (share : Bool) (s : AS) : Option (PDen rs) :=
  match aresults P s fn.results.toList with
  | some ts => match decMs s.heap (!share) rs ms ts with
    | some (y, ls) => if nodupO (ls.map (·.1)) = true then some y else none
    | none => none
  | none => none

noncomputable def afunM (P : Program) (Γ : Env) (an : Ann) (fn : Func) (ps rs : List (Bool × K)) (ms : List M) (share : Bool) (x : PDen ps) : Option (PDen rs) :=
  match fn.body with
  | none => none
  | some c => arun P Γ an c (PDen rs) none 0 (ainit fn ps x) { norm := aend (afinM P fn rs ms share), exit := fun _ _ => none, ret := aend (afinM P fn rs ms share) }

def OM.hd (c : OM) : HD where
  X := PDen c.ps × Bool
  Y := PDen c.rs
  dec h ts := adec h (!c.share) c.ps ts
  model x := c.model x.1
  out h _ x y := (h ++ (encMs (!c.share || x.2) c.rs c.ms h.length y).2.map fun o => (true, o), resTV (encMs (!c.share || x.2) c.rs c.ms h.length y).1)
  push := true
  pushes := fun _ _ _ _ _ => ⟨_, rfl⟩
  two := fun _ => ⟨fun h h' ts x hs e => adec_two hs _ _ _ e, fun h h' ts x y hl => ⟨_, _, rfl, by rw [hl]⟩⟩

/-! ### the function's side -/
def recM (β : List Bl) (p : Option Nat × Nat) : Bl := match p.1 with
  | some l => (β[l]?).getD ⟨0, 0, p.2, 0, 0, false, none⟩
  | none => ⟨0, 0, p.2, 0, 0, false, none⟩

section
variable {P : Program} {C : Cx} {s : AS} {β : List Bl} {a : Act} {w : World}

/-- Where the rows lie: they are live objects. -/
def LsOK (s : AS) (β : List Bl) (ls : List (Option Nat × Nat)) : Prop := ∀ l z, (some l, z) ∈ ls → ∃ f T k xs fr, s.heap[l]? = some (f, .vec T k xs fr) ∧ l < β.length

theorem decM_sound (h : Rel C s β a w) {nf : Bool} {N1 : Nat → Prop} (hN1 : ∀ b, (if nf then C.fresh s.heap β w b else C.N s.heap β w b) → N1 b) : ∀ (m : M) (k : K) (cs : List AV) (vs : List Value) (x : k.den) (ls : List (Option Nat × Nat)) (rest : List AV),
    All2 (AV.R w (C.N s.heap β w) (C.fresh s.heap β w) β) cs vs → decM s.heap nf m k cs = some (x, ls, rest) →
    LsOK s β ls ∧ ∃ v1 v2, vs = v1 ++ v2 ∧ All2 (AV.R w (C.N s.heap β w) (C.fresh s.heap β w) β) rest v2 ∧ rdM w N1 m k x v1 (ls.map (recM β)) := by
  intro m
  induction m with
  | p ma mb iha ihb =>
    intro k cs vs x ls rest hc e
    cases k with
    | pair ka kb =>
      unfold decM at e
      split at e
      rotate_left
      · simp at e
      rename_i x1 ls1 l1 h1
      split at e
      rotate_left
      · simp at e
      rename_i x2 ls2 l2 h2
      simp only [Option.some.injEq, Prod.mk.injEq] at e
      obtain ⟨rfl, rfl, rfl⟩ := e
      obtain ⟨q1, v1, v2, rfl, r1, r2⟩ := iha ka cs vs x1 ls1 l1 hc h1
      obtain ⟨q2, v3, v4, rfl, r3, r4⟩ := ihb kb l1 v2 x2 ls2 l2 r1 h2
      refine ⟨fun l z hz => ?_, v1 ++ v3, v4, by simp, r3, v1, v3, ls1.map (recM β), ls2.map (recM β), rfl, by simp, r2, r4⟩
      rcases List.mem_append.1 hz with hz | hz
      · exact q1 l z hz
      · exact q2 l z hz
    | _ => simp [decM] at e
  | s T =>
    intro k cs vs x ls rest hc e
    cases k with
    | sl k =>
      match cs, vs, hc with
      | [], _, _ => simp [decM] at e
      | c :: cs, v :: vs, hc =>
        unfold decM at e
        split at e
        rotate_left
        · simp at e
        rename_i xs o hd
        simp only [Option.some.injEq, Prod.mk.injEq] at e
        obtain ⟨rfl, rfl, rfl⟩ := e
        have hv := hc.1
        rcases decV_some hd with ⟨rfl, rfl, rfl⟩ | ⟨l, fl, rfl, rfl, ho, hfl⟩
        · have hv : v = .slice none 0 0 := hv
          subst hv
          refine ⟨fun l z hz => by simp at hz, [_], vs, rfl, hc.2, ⟨0, 0, k.size, 0, 0, false, none⟩, none, 0, by simp [recM], rfl, Nat.le_refl _, .inr ⟨rfl, rfl⟩, rfl, rfl, Nat.le_refl _, rfl⟩
        · obtain ⟨ff, r, g1, g2, g3, g4, g5, g6⟩ := h.obj ho (by simp)
          obtain ⟨r', A, cc, q1, q2, q3, q4⟩ := hv
          rw [g2] at q1; cases q1
          refine ⟨fun l' z hz => by
            simp only [List.mem_singleton, Prod.mk.injEq, Option.some.injEq] at hz
            obtain ⟨rfl, _⟩ := hz
            exact ⟨ff, _, _, _, _, g1, (List.getElem?_eq_some_iff.1 g2).1⟩, [v], vs, rfl, hc.2, r, A, cc, by simp [recM, g2], by rw [q2], q3, q4, g3, g4, g5, ?_⟩
          by_cases hreal : r.real = true
          · simp only [hreal, if_true] at g6 ⊢
            obtain ⟨pre, mid, post, hh, hp, hrow, hcap⟩ := g6
            refine ⟨pre, mid, post, hh, hp, rows_weak (fun _ _ => rfl) (fun b hb => hN1 b ?_) hrow, hcap⟩
            cases nf with
            | true =>
              have : fl = true := by simpa using hfl
              subst this
              exact hb
            | false =>
              cases fl with
              | true => exact Cx.fresh_N hb
              | false => exact hb
          · simp only [hreal] at g6 ⊢
            exact g6
    | _ => cases cs <;> simp [decM] at e
  | d =>
    intro k cs vs x ls rest hc e
    have e' : (match K.ofs s.heap false k cs with
      | some (x, f, l2) => if (!nf || f) = true then some (x, ([] : List (Option Nat × Nat)), l2) else none
      | none => none) = some (x, ls, rest) := by
      cases k <;> first | exact e | (cases cs <;> exact e)
    clear e
    split at e'
    rotate_left
    · simp at e'
    rename_i x1 f l2 hk
    split at e'
    rotate_left
    · simp at e'
    rename_i hf
    simp only [Option.some.injEq, Prod.mk.injEq] at e'
    obtain ⟨rfl, rfl, rfl⟩ := e'
    obtain ⟨v1, v2, rfl, r1, r2⟩ := ofs_sound h false k cs vs _ _ _ hc hk
    refine ⟨fun l z hz => by simp at hz, v1, v2, rfl, r2, rfl, K.rd_mono (fun _ _ => rfl) (fun b hb => hN1 b ?_) _ _ _ r1⟩
    cases nf with
    | true =>
      have : f = true := by simpa using hf
      subst this
      exact hb
    | false =>
      cases f with
      | true => exact Cx.fresh_N hb
      | false => exact hb

theorem decMs_sound (h : Rel C s β a w) {nf : Bool} {N1 : Nat → Prop} (hN1 : ∀ b, (if nf then C.fresh s.heap β w b else C.N s.heap β w b) → N1 b) : ∀ (rs : List (Bool × K)) (ms : List M) (ts : List TV) (vs : List Value) (y : PDen rs) (ls : List (Option Nat × Nat)),
    All2 (TV.R w (C.N s.heap β w) (C.fresh s.heap β w) β) ts vs → decMs s.heap nf rs ms ts = some (y, ls) → LsOK s β ls ∧ argsM w N1 rs ms y vs (ls.map (recM β))
  | [], [], [], [], y, ls, _, e => by
    simp [decMs] at e
    subst e
    exact ⟨fun l z hz => by simp at hz, rfl, rfl⟩
  | p :: rs, m :: ms, t :: ts, v :: vs, y, ls, hc, e => by
    unfold decMs at e
    split at e
    rotate_left
    · simp at e
    rename_i cs hcs
    split at e
    rotate_left
    · simp at e
    rename_i x1 ls1 y1 ls2 h1 h2
    simp only [Option.some.injEq, Prod.mk.injEq] at e
    obtain ⟨rfl, rfl⟩ := e
    obtain ⟨q2, r2⟩ := decMs_sound h hN1 rs ms ts vs y1 ls2 hc.2 h2
    have hv := hc.1
    obtain ⟨agg, k⟩ := p
    have key : ∃ us : List Value, All2 (AV.R w (C.N s.heap β w) (C.fresh s.heap β w) β) cs us ∧ ((agg = true ∧ v = .agg us.toArray) ∨ (agg = false ∧ us = [v])) := by
      cases agg with
      | true =>
        cases t with
        | agg cs' =>
          simp only [cellsOfT, Option.some.injEq] at hcs; subst hcs
          obtain ⟨us, rfl, hu⟩ := hv
          exact ⟨us, hu, .inl ⟨rfl, rfl⟩⟩
        | _ => simp [cellsOfT] at hcs
      | false =>
        cases t with
        | one a' =>
          simp only [cellsOfT, Option.some.injEq] at hcs; subst hcs
          exact ⟨[v], ⟨hv, trivial⟩, .inr ⟨rfl, rfl⟩⟩
        | _ => simp [cellsOfT] at hcs
    obtain ⟨us, hu, hcase⟩ := key
    obtain ⟨q1, v1, v2, e12, r1, r3⟩ := decM_sound h hN1 m k cs us x1 ls1 [] hu h1
    match v2, r1 with
    | [], _ =>
      simp only [List.append_nil] at e12
      subst e12
      refine ⟨fun l z hz => ?_, v, vs, ls1.map (recM β), ls2.map (recM β), rfl, by simp, ?_, r2⟩
      · rcases List.mem_append.1 hz with hz | hz
        · exact q1 l z hz
        · exact q2 l z hz
      · rcases hcase with ⟨rfl, rfl⟩ | ⟨rfl, rfl⟩
        · exact ⟨us, rfl, r3⟩
        · exact r3
  | [], [], [], _ :: _, _, _, h, _ => h.elim
  | [], [], _ :: _, _, _, _, _, e => by simp [decMs] at e
  | [], _ :: _, _, _, _, _, _, e => by simp [decMs] at e
  | _ :: _, [], _, _, _, _, _, e => by simp [decMs] at e
  | _ :: _, _ :: _, [], _, _, _, _, e => by simp [decMs] at e
  | _ :: _, _ :: _, _ :: _, [], _, _, h, _ => h.elim

theorem nodupO_idx : ∀ {l : List (Option Nat)}, nodupO l = true → ∀ {i j : Nat} {x : Nat}, l[i]? = some (some x) → l[j]? = some (some x) → i = j
  | [], _, _, _, _, h, _ => by simp at h
  | none :: r, hn, i, j, x, h1, h2 => by
    cases i with
    | zero => simp at h1
    | succ i => cases j with
      | zero => simp at h2
      | succ j => exact congrArg (· + 1) (nodupO_idx (l := r) (by simpa [nodupO] using hn) (by simpa using h1) (by simpa using h2))
  | some y :: r, hn, i, j, x, h1, h2 => by
    simp only [nodupO, Bool.and_eq_true, Bool.not_eq_true', List.contains_eq_mem, decide_eq_false_iff_not] at hn
    have mem : ∀ k, r[k]? = some (some y) → False := fun k hk => hn.1 (List.mem_of_getElem? hk)
    cases i with
    | zero => cases j with
      | zero => rfl
      | succ j =>
        simp only [List.getElem?_cons_zero, Option.some.injEq] at h1
        subst h1
        exact (mem j (by simpa using h2)).elim
    | succ i => cases j with
      | zero =>
        simp only [List.getElem?_cons_zero, Option.some.injEq] at h2
        subst h2
        exact (mem i (by simpa using h1)).elim
      | succ j => exact congrArg (· + 1) (nodupO_idx (l := r) hn.2 (by simpa using h1) (by simpa using h2))

theorem recM_real {ls : List (Option Nat × Nat)} (hls : LsOK s β ls) {i : Nat} {r : Bl} (hi : (ls.map (recM β))[i]? = some r) (hr : r.real = true) : ∃ l f T k xs fr, (ls.map (·.1))[i]? = some (some l) ∧ s.heap[l]? = some (f, .vec T k xs fr) ∧ β[l]? = some r := by
  rw [List.getElem?_map] at hi
  obtain ⟨p, hp, rfl⟩ := Option.map_eq_some_iff.1 hi
  obtain ⟨o, z⟩ := p
  cases o with
  | none => simp [recM] at hr
  | some l =>
    obtain ⟨f, T, k, xs, fr, h1, h2⟩ := hls l z (List.mem_of_getElem? hp)
    exact ⟨l, f, T, k, xs, fr, by simp [List.getElem?_map, hp], h1, by simp [recM, List.getElem?_eq_getElem h2]⟩

variable {Γ : Env}

theorem afunM_sound (hΓ : Γ.Sound P) (hyl : Γ.yl = []) (hm : P.follows .mixedOrders = true) {an : Ann} {f : FuncId} {fn : Func} (hf : P.funcs[f]? = some fn) (hn : (fn.name == "runtime.NumGoroutine") = false) {c : OM} {code : Code} (hbody : fn.body = some code)
    (hmod : ∀ x y, c.model x = some y → afunM P Γ an fn c.ps c.rs c.ms c.share x = some y) : c.Sound P f := by
  refine ⟨fun args w => ?_, fun x y hxy w N args hN hargs => ?_⟩
  · have h1 : fn.name ≠ "runtime.NumGoroutine" := by simpa using hn
    simp [callFunc, hf, h1, hbody, mark]
  · have e := hmod x y hxy
    simp only [afunM, hbody] at e
    refine ((body_core hΓ hm hf hbody (init_rel hN hargs) rfl rfl hyl e (S := fun v w' => ∃ δ, Grew w w' ∧ (∀ r ∈ δ, r.real = true → w.heap.size ≤ r.blk ∧ r.blk < w'.heap.size) ∧ Apart δ ∧
      resM w' (fun b => ((c.share = true ∧ N b) ∨ (w.heap.size ≤ b ∧ b < w'.heap.size)) ∧ ∀ r ∈ δ, r.real = true → b ≠ r.blk) c.rs c.ms y v δ) ?_)).mono ?_
    · intro s β a w' hG h _
      unfold afinM at hG
      split at hG
      rotate_left
      · simp at hG
      rename_i ts hts
      obtain ⟨vs, e1, e2⟩ := aresults_sound h hts
      split at hG
      rotate_left
      · simp at hG
      rename_i y' ls hd
      split at hG
      rotate_left
      · simp at hG
      rename_i hnd
      simp only [Option.some.injEq] at hG
      subst hG
      have main := decMs_sound h (nf := !c.share) (N1 := fun b => ((c.share = true ∧ N b) ∨ (w.heap.size ≤ b ∧ b < w'.heap.size)) ∧ ∀ r ∈ ls.map (recM β), r.real = true → b ≠ r.blk) ?_ c.rs c.ms ts vs y' ls e2 hd
      · obtain ⟨hls, hres⟩ := main
        refine ⟨_, results_run e1, ls.map (recM β), ⟨h.keep.os, h.keep.tape, h.keep.output, h.keep.size, fun b hb => h.keep.block b hb id, h.keep.drawn⟩, fun r hr hreal => ?_, fun i j ri rj hi hj hri hrj hbb => ?_, vs, rfl, hres⟩
        · obtain ⟨i, hi⟩ := List.mem_iff_getElem?.1 hr
          obtain ⟨l, f, T, k, xs, fr, _, g1, g2⟩ := recM_real hls hi hreal
          have := h.occ l _ r r.blk g1 g2 (by simp [AObj.occ, hreal])
          exact ⟨this.2.resolve_right id, this.1⟩
        · obtain ⟨l, f, T, k, xs, fr, q1, g1, g2⟩ := recM_real hls hi hri
          obtain ⟨l', f', T', k', xs', fr', q1', g1', g2'⟩ := recM_real hls hj hrj
          have := h.apart l l' _ _ ri rj ri.blk g1 g2 g1' g2' (by simp [AObj.occ, hri]) (by simp [AObj.occ, hrj, hbb])
          subst this
          exact nodupO_idx hnd q1 q1'
      · intro b hb
        have key : (w.heap.size ≤ b ∨ (c.share = true ∧ N b)) ∧ b < w'.heap.size ∧ Free s.heap β b := by
          cases hsh : c.share with
          | false =>
            rw [hsh] at hb
            exact ⟨.inl hb.1, hb.2.1, hb.2.2⟩
          | true =>
            rw [hsh] at hb
            rcases hb.1 with h1 | h1
            · exact ⟨.inr ⟨rfl, h1⟩, hb.2.1, hb.2.2⟩
            · exact ⟨.inl h1, hb.2.1, hb.2.2⟩
        refine ⟨?_, fun r hr hreal hbb => ?_⟩
        · rcases key.1 with h1 | h1
          · exact .inr ⟨h1, key.2.1⟩
          · exact .inl h1
        · have hlsok := (decMs_sound h (nf := !c.share) (N1 := fun _ => True) (fun _ _ => trivial) c.rs c.ms ts vs y' ls e2 hd).1
          obtain ⟨i, hi⟩ := List.mem_iff_getElem?.1 hr
          obtain ⟨l, f, T, k, xs, fr, _, g1, g2⟩ := recM_real hlsok hi hreal
          exact key.2.2 l _ r g1 g2 (by simp [AObj.occ, hreal, hbb])
    · rintro e' w' ⟨v, rfl, δ, h1, h2, h3, h4⟩
      exact ⟨v, δ, rfl, h1, h2, h3, h4⟩

theorem afunM_sound' (hΓ : Γ.Sound P) (hyl : Γ.yl = []) (hm : P.follows .mixedOrders = true) {an : Ann} {f : FuncId} {fn : Func} (hf : P.funcs[f]? = some fn) (hn : (fn.name == "runtime.NumGoroutine") = false) (hbody : fn.body.isSome = true) {ps rs : List (Bool × K)} {ms : List M} {share : Bool}
    {model : PDen ps → Option (PDen rs)} (hmod : (fun x => afunM P Γ an fn ps rs ms share x) = model) : (OM.mk ps rs ms share model).Sound P f := by
  obtain ⟨c, hc⟩ := Option.isSome_iff_exists.1 hbody
  exact afunM_sound hΓ hyl hm hf hn hc (fun x y h => by rw [← hmod] at h; exact h)
end

/-! ### the caller's side -/
section
variable {w : World} {N : Nat → Prop}

/-- An object that has been handed out. -/
def Handed (w : World) (N : Nat → Prop) (fr : Bool) (o : AObj) (r : Bl) : Prop := ∃ T k x, o = .vec T k x fr ∧ (AObj.vec T k x false).R w N N [] r

theorem rdM_enc (fr : Bool) : ∀ (m : M) (k : K) (x : k.den) (cs : List Value) (δ : List Bl) (n : Nat), rdM w N m k x cs δ →
    (encM fr m n k x).2.length = δ.length ∧ (∀ (i : Nat) (o : AObj) (r : Bl), (encM fr m n k x).2[i]? = some o → δ[i]? = some r → Handed w N fr o r) ∧
    ∀ (N1 Nf1 : Nat → Prop) (β : List Bl), (∀ b, N b → (if fr then Nf1 else N1) b) → (∀ (i : Nat) (r : Bl), δ[i]? = some r → β[n + i]? = some r) → All2 (AV.R w N1 Nf1 β) (encM fr m n k x).1 cs := by
  intro m
  induction m with
  | p ma mb iha ihb =>
    intro k x cs δ n h
    cases k with
    | pair ka kb =>
      obtain ⟨c, d, δ1, δ2, rfl, rfl, h1, h2⟩ := h
      obtain ⟨l1, o1, a1⟩ := iha ka x.1 c δ1 n h1
      obtain ⟨l2, o2, a2⟩ := ihb kb x.2 d δ2 (n + δ1.length) h2
      unfold encM
      rw [l1]
      refine ⟨by simp [l1, l2], fun i o r ho hr => ?_, fun N1 Nf1 β hN hβ => (a1 N1 Nf1 β hN fun i r hi => hβ i r (get_app hi)).app (a2 N1 Nf1 β hN fun i r hi => ?_)⟩
      · by_cases hi : i < δ1.length
        · rw [List.getElem?_append_left (by rw [l1]; exact hi)] at ho
          rw [List.getElem?_append_left hi] at hr
          exact o1 i o r ho hr
        · rw [List.getElem?_append_right (by rw [l1]; omega)] at ho
          rw [List.getElem?_append_right (by omega)] at hr
          rw [l1] at ho
          exact o2 _ o r ho hr
      · rw [Nat.add_assoc]
        exact hβ _ r (by rw [List.getElem?_append_right (by omega)]; simpa using hi)
    | _ => exact h.elim
  | s T =>
    intro k x cs δ n h
    cases k with
    | sl k =>
      obtain ⟨r, A, c, rfl, rfl, h1, h2, h3⟩ := h
      unfold encM
      refine ⟨rfl, fun i o r' ho hr => ?_, fun N1 Nf1 β hN hβ => ⟨⟨r, A, c, by simpa using hβ 0 r rfl, rfl, h1, h2⟩, trivial⟩⟩
      cases i with
      | zero =>
        simp only [List.getElem?_cons_zero, Option.some.injEq] at ho hr
        subst ho; subst hr
        exact ⟨T, k, x, rfl, h3⟩
      | succ i => simp at ho
    | _ => exact h.elim
  | d =>
    intro k x cs δ n h
    have h' : δ = [] ∧ k.rd w N x cs := by cases k <;> exact h
    have he : encM fr .d n k x = (K.cells fr k x, []) := by cases k <;> rfl
    obtain ⟨rfl, h2⟩ := h'
    rw [he]
    refine ⟨rfl, fun i o r ho _ => by simp at ho, fun N1 Nf1 β hN _ => K.cells_R fr k x cs (K.rd_mono (fun _ _ => rfl) hN k x cs h2)⟩

theorem argsM_enc (fr : Bool) : ∀ (rs : List (Bool × K)) (ms : List M) (y : PDen rs) (vs : List Value) (δ : List Bl) (n : Nat), argsM w N rs ms y vs δ →
    (encMs fr rs ms n y).2.length = δ.length ∧ (∀ (i : Nat) (o : AObj) (r : Bl), (encMs fr rs ms n y).2[i]? = some o → δ[i]? = some r → Handed w N fr o r) ∧
    ∀ (N1 Nf1 : Nat → Prop) (β : List Bl), (∀ b, N b → (if fr then Nf1 else N1) b) → (∀ (i : Nat) (r : Bl), δ[i]? = some r → β[n + i]? = some r) → All2 (compR w N1 Nf1 β) (encMs fr rs ms n y).1 vs
  | [], [], _, vs, δ, n, h => by
    obtain ⟨rfl, rfl⟩ := h
    exact ⟨rfl, fun i o r ho _ => by simp [encMs] at ho, fun _ _ _ _ _ => trivial⟩
  | p :: rs, m :: ms, y, vs, δ, n, h => by
    obtain ⟨v, vs', δ1, δ2, rfl, rfl, hv, h2⟩ := h
    obtain ⟨agg, k⟩ := p
    have key : ∃ cs, rdM w N m k y.1 cs δ1 ∧ ((agg = true ∧ v = .agg cs.toArray) ∨ (agg = false ∧ cs = [v])) := by
      cases agg with
      | true => obtain ⟨cs, rfl, h⟩ := hv; exact ⟨cs, h, .inl ⟨rfl, rfl⟩⟩
      | false => exact ⟨[v], hv, .inr ⟨rfl, rfl⟩⟩
    obtain ⟨cs, hcs, hcase⟩ := key
    obtain ⟨l1, o1, a1⟩ := rdM_enc fr m k y.1 cs δ1 n hcs
    obtain ⟨l2, o2, a2⟩ := argsM_enc fr rs ms y.2 vs' δ2 (n + δ1.length) h2
    unfold encMs
    rw [l1]
    refine ⟨by simp [l1, l2], fun i o r ho hr => ?_, fun N1 Nf1 β hN hβ => ⟨?_, a2 N1 Nf1 β hN fun i r hi => ?_⟩⟩
    · by_cases hi : i < δ1.length
      · rw [List.getElem?_append_left (by rw [l1]; exact hi)] at ho
        rw [List.getElem?_append_left hi] at hr
        exact o1 i o r ho hr
      · rw [List.getElem?_append_right (by rw [l1]; omega)] at ho
        rw [List.getElem?_append_right (by omega)] at hr
        rw [l1] at ho
        exact o2 _ o r ho hr
    · have := a1 N1 Nf1 β hN fun i r hi => hβ i r (get_app hi)
      rcases hcase with ⟨rfl, rfl⟩ | ⟨rfl, rfl⟩
      · exact ⟨cs, rfl, this⟩
      · show compR w N1 Nf1 β (false, (encM fr m n k y.1).1) v
        generalize (encM fr m n k y.1).1 = cc at this
        match cc, this with
        | [c], this => exact this.1
    · rw [Nat.add_assoc]
      exact hβ _ r (by rw [List.getElem?_append_right (by omega)]; simpa using hi)
  | [], _ :: _, _, _, _, _, h => h.elim
  | _ :: _, [], _, _, _, _, h => h.elim

theorem resTV_R {N1 Nf1 : Nat → Prop} {β : List Bl} : ∀ {l : List (Bool × List AV)} {vs : List Value}, All2 (compR w N1 Nf1 β) l vs → (resTV l).R w N1 Nf1 β (if h : vs.toArray.size = 1 then vs.toArray[0] else .tuple vs.toArray)
  | [], [], _ => ⟨[], by simp, trivial⟩
  | [(b, cs)], [v], h => by
    have h := h.1
    simp only [List.size_toArray, List.length_singleton]
    show TV.R w N1 Nf1 β ((shapeTV b cs).getD (.one .junk)) v
    cases b with
    | true => exact h
    | false =>
      match cs, h with
      | [c], h => exact h
  | c :: d :: l, v :: u :: vs, h => ⟨v :: u :: vs, by simp, h⟩
  | [_], _ :: _ :: _, h => h.2.elim
  | _ :: _ :: _, [_], h => h.2.elim
  | [], _ :: _, h => h.elim
  | _ :: _, [], h => h.elim
end

theorem OM.Sound.hd {P : Program} {f : FuncId} {c : OM} (hc : c.Sound P f) : c.hd.Sound P f := by
  refine ⟨hc.1, fun x y hxy C s β a w ts vs h hvs hdec => ?_⟩
  obtain ⟨x, fr⟩ := x
  have hy1 : c.model x = some y := hxy
  have hdec : adec s.heap (!c.share) c.ps ts = some (x, fr) := hdec
  have hargs := adec_sound h hvs hdec
  refine (hc.2 x y hy1 w _ vs (fun b hb => ?_) hargs).mono ?_
  · revert hb; cases c.share <;> cases fr <;> intro hb <;> first | exact hb.2.1 | exact hb.2
  · rintro e' w' ⟨v, δ, rfl, hg, q1, q2, us, rfl, q3⟩
    have hk := h.keep.size
    obtain ⟨e1, e2, e3⟩ := argsM_enc (!c.share || fr) c.rs c.ms y us δ s.heap.length q3
    generalize hobj : (encMs (!c.share || fr) c.rs c.ms s.heap.length y).2 = objs at e1 e2
    have hnew : ∀ (l : Nat) (o : Bool × AObj) (r : Bl), (s.heap ++ objs.map fun o => (true, o))[l]? = some o → (β ++ δ)[l]? = some r → s.heap.length ≤ l → ∃ i, l = s.heap.length + i ∧ δ[i]? = some r ∧ Handed w' (fun b => ((c.share = true ∧ Dec C s β w (!c.share) fr b) ∨ (w.heap.size ≤ b ∧ b < w'.heap.size)) ∧ ∀ r ∈ δ, r.real = true → b ≠ r.blk) (!c.share || fr) o.2 r := by
      intro l o r h1 h2 h3
      rw [List.getElem?_append_right h3] at h1
      rw [List.getElem?_append_right (by rw [h.bsize]; exact h3)] at h2
      rw [List.getElem?_map] at h1
      obtain ⟨o', ho', rfl⟩ := Option.map_eq_some_iff.1 h1
      rw [h.bsize] at h2
      exact ⟨l - s.heap.length, by omega, h2, e2 _ _ _ ho' h2⟩
    have hocc : ∀ (o : AObj) (r : Bl) (b : Nat) (Nx : Nat → Prop), Handed w' Nx (!c.share || fr) o r → b ∈ o.occ r → r.real = true ∧ b = r.blk := by
      rintro o r b Nx ⟨T, k, xx, rfl, _⟩ hb
      simp only [AObj.occ] at hb
      split at hb
      · rename_i hreal; exact ⟨hreal, by simpa using hb⟩
      · simp at hb
    have free : ∀ b, b < w.heap.size → Free s.heap β b → Free (s.heap ++ objs.map fun o => (true, o)) (β ++ δ) b := fun b hb hf l o rr g1 g2 hx => by
      by_cases hl : l < s.heap.length
      · rw [List.getElem?_append_left hl] at g1
        rw [List.getElem?_append_left (by rw [h.bsize]; exact hl)] at g2
        exact hf l o rr g1 g2 hx
      · obtain ⟨i, rfl, hi, hh⟩ := hnew l o rr g1 g2 (by omega)
        obtain ⟨hr, rfl⟩ := hocc o.2 rr b _ hh hx
        have := (q1 rr (List.mem_of_getElem? hi) hr).1
        omega
    have k2 : ∀ b, C.N s.heap β w b → C.N (s.heap ++ objs.map fun o => (true, o)) (β ++ δ) w' b := fun b hb => ⟨hb.1, by have := hb.2.1; have := hg.size; omega, free b hb.2.1 hb.2.2⟩
    have k3 : ∀ b, C.fresh s.heap β w b → C.fresh (s.heap ++ objs.map fun o => (true, o)) (β ++ δ) w' b := fun b hb => ⟨hb.1, by have := hb.2.1; have := hg.size; omega, free b hb.2.1 hb.2.2⟩
    have reach : ∀ b, (((c.share = true ∧ Dec C s β w (!c.share) fr b) ∨ (w.heap.size ≤ b ∧ b < w'.heap.size)) ∧ ∀ r ∈ δ, r.real = true → b ≠ r.blk) →
        (if (!c.share || fr) = true then C.fresh (s.heap ++ objs.map fun o => (true, o)) (β ++ δ) w' b else C.N (s.heap ++ objs.map fun o => (true, o)) (β ++ δ) w' b) := by
      rintro b ⟨hb, hne⟩
      have hfr : w.heap.size ≤ b → b < w'.heap.size → C.fresh (s.heap ++ objs.map fun o => (true, o)) (β ++ δ) w' b := fun h1 h2 => by
        refine ⟨by omega, h2, fun l o rr g1 g2 hx => ?_⟩
        by_cases hl : l < s.heap.length
        · rw [List.getElem?_append_left hl] at g1
          rw [List.getElem?_append_left (by rw [h.bsize]; exact hl)] at g2
          have := (h.occ l o rr b g1 g2 hx).1; omega
        · obtain ⟨i, rfl, hi, hh⟩ := hnew l o rr g1 g2 (by omega)
          obtain ⟨hr, hb'⟩ := hocc o.2 rr b _ hh hx
          exact hne rr (List.mem_of_getElem? hi) hr hb'
      cases hsh : c.share with
      | false =>
        simp only [Bool.not_false, Bool.true_or, if_true]
        rcases hb with hb | hb
        · rw [hsh] at hb; simp at hb
        · exact hfr hb.1 hb.2
      | true =>
        rw [hsh] at hb
        simp only [Bool.not_true, true_and, Bool.false_or] at hb ⊢
        cases fr with
        | true =>
          simp only [if_true]
          rcases hb with hb | hb
          · exact k3 b hb
          · exact hfr hb.1 hb.2
        | false =>
          simp only [Bool.false_eq_true, if_false]
          rcases hb with hb | hb
          · exact k2 b hb
          · exact Cx.fresh_N (hfr hb.1 hb.2)
    have hgen := h.gen (hdr := hg.drawn) (s.heap ++ objs.map fun o => (true, o)) δ w' (fun _ => False) hg.os hg.tape hg.output hg.size (by simp [e1]) (fun l o h _ => ⟨o, get_app h, rfl⟩) (fun l _ h => get_app h) (fun b hb _ => hg.block b hb)
      (fun l o r b h1 h2 h3 hx => by
        obtain ⟨i, rfl, hi, hh⟩ := hnew l o r h1 h2 (h3.resolve_left id)
        obtain ⟨hr, rfl⟩ := hocc o.2 r b _ hh hx
        have := q1 r (List.mem_of_getElem? hi) hr
        exact ⟨this.2, .inl this.1⟩)
      (fun l l' o o' r r' b h1 h2 h1' h2' h3 h3' hx hx' => by
        obtain ⟨i, rfl, hi, hh⟩ := hnew l o r h1 h2 (h3.resolve_left id)
        obtain ⟨i', rfl, hi', hh'⟩ := hnew l' o' r' h1' h2' (h3'.resolve_left id)
        obtain ⟨hr, rfl⟩ := hocc o.2 r b _ hh hx
        obtain ⟨hr', hb⟩ := hocc o'.2 r' _ _ hh' hx'
        rw [q2 i i' r r' hi hi' hr hr' hb])
      (fun l o r h1 h2 h3 _ _ _ _ => by
        obtain ⟨i, rfl, hi, T, k, xx, ho, hR⟩ := hnew l o r h1 h2 (h3.resolve_left id)
        obtain ⟨ob, oo⟩ := o
        subst ho
        obtain ⟨p1, p2, p3, p4⟩ := hR
        refine ⟨p1, p2, p3, ?_⟩
        by_cases hreal : r.real = true
        · simp only [hreal, if_true] at p4 ⊢
          obtain ⟨pre, mid, post, hh, hp, hrow, hcap⟩ := p4
          refine ⟨pre, mid, post, hh, hp, rows_weak (fun _ _ => rfl) (fun b hb => ?_) hrow, hcap⟩
          have := reach b hb
          by_cases hg : (!c.share || fr) = true
          · rw [if_pos hg] at this ⊢; exact this
          · rw [if_neg hg] at this ⊢; exact this
        · simp only [hreal] at p4 ⊢
          exact p4)
    obtain ⟨h2, mv⟩ := hgen
    refine ⟨_, β ++ δ, rfl, ?_, ?_, ⟨δ, rfl⟩, ?_, fun l o hl ho => ?_, fun l hl => ?_⟩
    · show Rel C { s with heap := s.heap ++ (encMs (!c.share || fr) c.rs c.ms s.heap.length y).2.map fun o => (true, o) } (β ++ δ) a w'
      rw [hobj]; exact h2
    · have := resTV_R (e3 (C.N (s.heap ++ objs.map fun o => (true, o)) (β ++ δ) w') (C.fresh (s.heap ++ objs.map fun o => (true, o)) (β ++ δ) w') (β ++ δ) (fun b hb => by
        have := reach b hb
        by_cases hg : (!c.share || fr) = true
        · rw [if_pos hg] at this ⊢; exact this
        · rw [if_neg hg] at this ⊢; exact this) fun i r hi => by rw [← h.bsize, List.getElem?_append_right (by omega)]; simpa using hi)
      show TV.R w' (C.N (s.heap ++ (encMs (!c.share || fr) c.rs c.ms s.heap.length y).2.map fun o => (true, o)) (β ++ δ) w') (C.fresh (s.heap ++ (encMs (!c.share || fr) c.rs c.ms s.heap.length y).2.map fun o => (true, o)) (β ++ δ) w') (β ++ δ) _ _
      rw [hobj]
      exact this
    · show _ ≤ (s.heap ++ _).length; simp
    · have ho : (s.heap ++ (encMs (!c.share || fr) c.rs c.ms s.heap.length y).2.map fun o => (true, o))[l]? = some (false, o) := ho
      rwa [List.getElem?_append_left hl] at ho
    · exact get_app hl
end Go.Proofs.AM
end

section
/- Functions that turn what they are handed by reference: a box, of which some parts are rows of its own. -/
namespace Go.Proofs.AM
open Go Go.RowKit

structure IOc where
  T : TypeId
  k : K
  m : M
  ps : List (Bool × K)
  rs : List (Bool × K)
  model : PDen ((true, k) :: ps) → Option (PDen ((true, k) :: rs))

/-- The blocks of rows that are there. -/
def InD (δ : List Bl) (b : Nat) : Prop := ∃ r ∈ δ, r.real = true ∧ b = r.blk

/-- What lies behind a call. -/
def ioN (w w' : World) (N : Nat → Prop) (B : Nat) (δ' : List Bl) (b : Nat) : Prop := (N b ∨ (w.heap.size ≤ b ∧ b < w'.heap.size)) ∧ b ≠ B ∧ ¬ InD δ' b

def IOc.Sound (P : Program) (f : FuncId) (c : IOc) : Prop :=
  (∀ args w, (callFunc f args).run P w = .ok (.enter f args) w) ∧
  ∀ (x : c.k.den) (a : PDen c.ps) (y : c.k.den) (z : PDen c.rs), c.model (x, a) = some (y, z) → ∀ (w : World) (N : Nat → Prop) (B : Nat) (cs : List Value) (δ : List Bl) (args : List Value),
    w.heap[B]? = some (.cells cs.toArray c.T (0, 0)) → rdM w N c.m c.k x cs δ → Apart δ → (∀ r ∈ δ, r.real = true → r.blk ≠ B ∧ r.blk < w.heap.size) →
    (∀ b, N b → b < w.heap.size ∧ b ≠ B ∧ ¬ InD δ b) → argsR w N c.ps a args →
    Calls P f (Value.pointer (some ⟨B, 0, none⟩) :: args).toArray w fun e w' => ∃ v cs' δ', e = .returned v ∧ Kept (fun b => b = B ∨ InD δ b) w w' ∧
      w'.heap[B]? = some (.cells (List.toArray cs') c.T (0, 0)) ∧ rdM w' (ioN w w' N B δ') c.m c.k y cs' δ' ∧ Apart δ' ∧
      (∀ r ∈ δ', r.real = true → r.blk ≠ B ∧ r.blk < w'.heap.size ∧ (w.heap.size ≤ r.blk ∨ InD δ r.blk)) ∧
      resR w' (ioN w w' N B δ') c.rs z v

/-! ### the function's side -/
def ioInit (fn : Func) (c : IOc) (x : PDen ((true, c.k) :: c.ps)) : AS :=
  { tmps := .one (.ptr 0 0) :: (aargs c.ps x.2 ++ List.replicate (fn.ntmps - c.ps.length - 1) undefTV), heap := (true, .box c.T (encM false c.m 1 c.k x.1).1) :: (encM false c.m 1 c.k x.1).2.map fun o => (true, o), marks := [] }

def afinIO (P : Program) (fn : Func) (c : IOc) (s : AS) : Option (PDen ((true, c.k) :: c.rs)) :=
  match aresults P s fn.results.toList with
  | some ts => match s.heap[0]? with
    | some (_, AObj.box T cs) => if T = c.T then match decM s.heap false c.m c.k cs with
      | some (y, ls, []) => match adec s.heap false c.rs ts with
        | some (z, _) => if nodupO (ls.map (·.1)) = true then some (y, z) else none
        | none => none
      | _ => none
      else none
    | _ => none
  | none => none

noncomputable def afunIO (P : Program) (Γ : Env) (an : Ann) (fn : Func) (T : TypeId) (k : K) (m : M) (ps rs : List (Bool × K)) (x : PDen ((true, k) :: ps)) : Option (PDen ((true, k) :: rs)) :=
  match fn.body with
  | none => none
  | some code => arun P Γ an code (PDen ((true, k) :: rs)) none 0 (ioInit fn ⟨T, k, m, ps, rs, fun _ => none⟩ x)
      { norm := aendI (ioInit fn ⟨T, k, m, ps, rs, fun _ => none⟩ x).heap.length (afinIO P fn ⟨T, k, m, ps, rs, fun _ => none⟩), exit := fun _ _ => none, ret := aendI (ioInit fn ⟨T, k, m, ps, rs, fun _ => none⟩ x).heap.length (afinIO P fn ⟨T, k, m, ps, rs, fun _ => none⟩) }

section
variable {P : Program} {Γ : Env}

theorem handed_occ {w : World} {N : Nat → Prop} {fr : Bool} {o : AObj} {r : Bl} {b : Nat} (h : Handed w N fr o r) (hb : b ∈ o.occ r) : r.real = true ∧ b = r.blk := by
  obtain ⟨T, k, xx, rfl, _⟩ := h
  simp only [AObj.occ] at hb
  split at hb
  · rename_i hreal; exact ⟨hreal, by simpa using hb⟩
  · simp at hb

theorem handed_R {w : World} {N N1 Nf1 : Nat → Prop} {β : List Bl} {fr : Bool} {o : AObj} {r : Bl} (h : Handed w N fr o r) (hN : ∀ b, N b → (if fr then Nf1 else N1) b) : o.R w N1 Nf1 β r := by
  obtain ⟨T, k, xx, rfl, p1, p2, p3, p4⟩ := h
  refine ⟨p1, p2, p3, ?_⟩
  by_cases hreal : r.real = true
  · simp only [hreal, if_true] at p4 ⊢
    obtain ⟨pre, mid, post, hh, hp, hrow, hcap⟩ := p4
    exact ⟨pre, mid, post, hh, hp, rows_weak (fun _ _ => rfl) (fun b hb => by
      have := hN b hb
      by_cases hg : fr = true
      · rw [if_pos hg] at this ⊢; exact this
      · rw [if_neg hg] at this ⊢; exact this) hrow, hcap⟩
  · simp only [hreal] at p4 ⊢
    exact p4

theorem ioinit_rel {fn : Func} {c : IOc} {x : c.k.den} {a : PDen c.ps} {w : World} {N : Nat → Prop} {B : Nat} {cs : List Value} {δ : List Bl} {args : List Value}
    (hB : w.heap[B]? = some (.cells cs.toArray c.T (0, 0))) (hx : rdM w N c.m c.k x cs δ) (hap : Apart δ) (hδ : ∀ r ∈ δ, r.real = true → r.blk ≠ B ∧ r.blk < w.heap.size)
    (hN : ∀ b, N b → b < w.heap.size ∧ b ≠ B ∧ ¬ InD δ b) (hargs : argsR w N c.ps a args) :
    Rel ⟨w, N, fun b => b = B ∨ InD δ b, []⟩ (ioInit fn c (x, a)) (⟨B, 0, 0, 0, 0, true, none⟩ :: δ)
      { tmps := (Value.pointer (some ⟨B, 0, none⟩) :: args).toArray ++ Array.replicate (fn.ntmps - (Value.pointer (some ⟨B, 0, none⟩) :: args).toArray.size) undef, defers := [] } w := by
  have hA := aargs_R (Nf := fun _ => False) hargs
  have hlen : args.length = c.ps.length := by rw [← All2.len' hA, aargs_len]
  obtain ⟨e1, e2, e3⟩ := rdM_enc false c.m c.k x cs δ 1 hx
  have hBs : B < w.heap.size := (Array.getElem?_eq_some_iff.1 hB).1
  have hob : ∀ (l : Nat) (o : Bool × AObj) (r : Bl), (ioInit fn c (x, a)).heap[l]? = some o → ((⟨B, 0, 0, 0, 0, true, none⟩ : Bl) :: δ)[l]? = some r →
      (l = 0 ∧ o = (true, .box c.T (encM false c.m 1 c.k x).1) ∧ r = ⟨B, 0, 0, 0, 0, true, none⟩) ∨ (∃ i, l = i + 1 ∧ δ[i]? = some r ∧ Handed w N false o.2 r) := by
    intro l o r ho hr
    cases l with
    | zero =>
      left
      simp only [ioInit, List.getElem?_cons_zero, Option.some.injEq] at ho hr
      exact ⟨rfl, ho.symm, hr.symm⟩
    | succ i =>
      right
      simp only [ioInit, List.getElem?_cons_succ, List.getElem?_map] at ho hr
      obtain ⟨o', ho', rfl⟩ := Option.map_eq_some_iff.1 ho
      exact ⟨i, rfl, hr, e2 i o' r ho' hr⟩
  have hocc : ∀ (l : Nat) (o : Bool × AObj) (r : Bl) (b : Nat), (ioInit fn c (x, a)).heap[l]? = some o → ((⟨B, 0, 0, 0, 0, true, none⟩ : Bl) :: δ)[l]? = some r → b ∈ o.2.occ r → (l = 0 ∧ b = B) ∨ ∃ i, l = i + 1 ∧ δ[i]? = some r ∧ r.real = true ∧ b = r.blk := by
    intro l o r b ho hr hb
    rcases hob l o r ho hr with ⟨rfl, rfl, rfl⟩ | ⟨i, rfl, hi, hh⟩
    · left; simpa [AObj.occ] using hb
    · right
      obtain ⟨h1, h2⟩ := handed_occ hh hb
      exact ⟨i, rfl, hi, h1, h2⟩
  have hN' : ∀ b, N b → Cx.N ⟨w, N, fun b => b = B ∨ InD δ b, []⟩ (ioInit fn c (x, a)).heap (⟨B, 0, 0, 0, 0, true, none⟩ :: δ) w b := fun b hb => by
    obtain ⟨h1, h2, h3⟩ := hN b hb
    refine ⟨.inl hb, h1, fun l o r ho hr hx => ?_⟩
    rcases hocc l o r b ho hr hx with ⟨_, h⟩ | ⟨i, _, hi, hreal, h⟩
    · exact h2 h
    · exact h3 ⟨r, List.mem_of_getElem? hi, hreal, h⟩
  refine { defers := ⟨[], rfl, trivial⟩, tsize := ?_, tm := ?_, bsize := ?_, ob := fun l o r ho hr => ?_, occ := fun l o r b ho hr hb => ?_, apart := fun l l' o o' r r' b h1 h2 h3 h4 h5 h6 => ?_, keep := Kept.refl _ _, frs := fun f hf => by simp at hf }
  · simp [ioInit, aargs_len, hlen]; omega
  · intro i t hi
    cases i with
    | zero =>
      simp only [ioInit, List.getElem?_cons_zero, Option.some.injEq] at hi
      subst hi
      refine ⟨⟨B, 0, 0, 0, 0, true, none⟩, rfl, ?_⟩
      rw [Array.getD_eq_getD_getElem?, Array.getElem?_append_left (by simp)]
      simp [Bl.addr]
    | succ i =>
      simp only [ioInit, List.getElem?_cons_succ] at hi
      by_cases hl : i < c.ps.length
      · rw [List.getElem?_append_left (by rw [aargs_len]; exact hl)] at hi
        obtain ⟨v, hv, hR⟩ := All2.get2 hA hi
        have : ((Value.pointer (some ⟨B, 0, none⟩) :: args).toArray ++ Array.replicate (fn.ntmps - (Value.pointer (some ⟨B, 0, none⟩) :: args).toArray.size) undef).getD (i + 1) undef = v := by
          rw [Array.getD_eq_getD_getElem?, Array.getElem?_append_left (by simpa [hlen] using hl)]
          simp [hv]
        show t.R w _ _ _ _
        rw [this]
        exact TV.R_mono (AV.R_mono (fun _ _ => rfl) hN' (fun b hb => hb.elim) (fun b hb => hb.elim) (fun l r h => by simp at h)) _ _ hR
      · rw [List.getElem?_append_right (by rw [aargs_len]; omega), aargs_len, List.getElem?_replicate] at hi
        split at hi
        · cases hi
          have : ((Value.pointer (some ⟨B, 0, none⟩) :: args).toArray ++ Array.replicate (fn.ntmps - (Value.pointer (some ⟨B, 0, none⟩) :: args).toArray.size) undef).getD (i + 1) undef = undef := by
            rw [Array.getD_eq_getD_getElem?, Array.getElem?_append_right (by simpa [hlen] using hl)]
            simp [Array.getElem?_replicate]
            split <;> rfl
          show undefTV.R w _ _ _ _
          rw [this]
          exact undefTV_R
        · simp at hi
  · simp [ioInit, e1]
  · rcases hob l o r ho hr with ⟨rfl, rfl, rfl⟩ | ⟨i, rfl, hi, hh⟩
    · exact ⟨cs, hB, rfl, e3 _ _ _ (fun b hb => hN' b hb) (fun i r hi => by rw [Nat.add_comm]; exact hi)⟩
    · exact handed_R hh (fun b hb => hN' b hb)
  · rcases hocc l o r b ho hr hb with ⟨_, rfl⟩ | ⟨i, _, hi, hreal, rfl⟩
    · exact ⟨hBs, .inr (.inl rfl)⟩
    · have hm := List.mem_of_getElem? hi
      exact ⟨(hδ r hm hreal).2, .inr (.inr ⟨r, hm, hreal, rfl⟩)⟩
  · rcases hocc l o r b h1 h2 h5 with ⟨rfl, rfl⟩ | ⟨i, rfl, hi, hreal, rfl⟩
    · rcases hocc l' o' r' _ h3 h4 h6 with ⟨rfl, _⟩ | ⟨j, rfl, hj, hreal', hb⟩
      · rfl
      · exact absurd hb.symm (hδ r' (List.mem_of_getElem? hj) hreal').1
    · rcases hocc l' o' r' _ h3 h4 h6 with ⟨rfl, hb⟩ | ⟨j, rfl, hj, hreal', hb⟩
      · exact absurd hb (hδ r (List.mem_of_getElem? hi) hreal).1
      · rw [hap i j r r' hi hj hreal hreal' hb]

theorem afunIO_sound (hΓ : Γ.Sound P) (hyl : Γ.yl = []) (hm : P.follows .mixedOrders = true) {an : Ann} {f : FuncId} {fn : Func} (hf : P.funcs[f]? = some fn) (hn : (fn.name == "runtime.NumGoroutine") = false) {c : IOc} {code : Code} (hbody : fn.body = some code)
    (hmod : ∀ x y, c.model x = some y → afunIO P Γ an fn c.T c.k c.m c.ps c.rs x = some y) : c.Sound P f := by
  refine ⟨fun args w => ?_, fun x a y z hxy w N B cs δ args hB hx hap hδ hN hargs => ?_⟩
  · have h1 : fn.name ≠ "runtime.NumGoroutine" := by simpa using hn
    simp [callFunc, hf, h1, hbody, mark]
  · have e := hmod (x, a) (y, z) hxy
    simp only [afunIO, hbody] at e
    have hrel := ioinit_rel (fn := fn) (c := ⟨c.T, c.k, c.m, c.ps, c.rs, fun _ => none⟩) hB hx hap hδ hN hargs
    refine ((body_coreI hΓ hm hf hbody hrel _ (by simp) (Nat.le_refl _) (by rw [hyl]; exact YOK.nil _ _ _) e (S := fun v w' => ∃ cs' δ', Kept (fun b => b = B ∨ InD δ b) w w' ∧
      w'.heap[B]? = some (.cells (List.toArray cs') c.T (0, 0)) ∧ rdM w' (ioN w w' N B δ') c.m c.k y cs' δ' ∧ Apart δ' ∧
      (∀ r ∈ δ', r.real = true → r.blk ≠ B ∧ r.blk < w'.heap.size ∧ (w.heap.size ≤ r.blk ∨ InD δ r.blk)) ∧
      resR w' (ioN w w' N B δ') c.rs z v) ?_)).mono ?_
    · intro s β a' w' hG h hgr
      unfold afinIO at hG
      split at hG
      rotate_left
      · simp at hG
      rename_i ts hts
      obtain ⟨vs, q1, q2⟩ := aresults_sound h hts
      split at hG
      rotate_left
      · simp at hG
      rename_i fl T cs0 h0
      split at hG
      rotate_left
      · simp at hG
      rename_i hT
      subst hT
      split at hG
      rotate_left
      · simp at hG
      rename_i y' ls hd
      split at hG
      rotate_left
      · simp at hG
      rename_i z' fz hz
      split at hG
      rotate_left
      · simp at hG
      rename_i hnd
      simp only [Option.some.injEq, Prod.mk.injEq] at hG
      obtain ⟨rfl, rfl⟩ := hG
      obtain ⟨δ2, hβ⟩ := hgr.bx
      have hb0 : β[0]? = some ⟨B, 0, 0, 0, 0, true, none⟩ := by rw [hβ]; rfl
      obtain ⟨us, hw, _, hus⟩ := h.ob 0 _ _ h0 hb0
      have key := decM_sound h (nf := false) (N1 := ioN w w' N B (ls.map (recM β))) ?_ c.m c.k cs0 us y' ls [] hus hd
      · obtain ⟨hls, v1, v2, rfl, hv2, hrd⟩ := key
        match v2, hv2 with
        | [], _ =>
        simp only [List.append_nil] at hw
        refine ⟨_, results_run q1, v1, ls.map (recM β), h.keep, hw, hrd, fun i j ri rj hi hj hri hrj hbb => ?_, fun r hr hreal => ?_, ?_⟩
        · obtain ⟨l, f, T, k, xs, fr, p1, g1, g2⟩ := recM_real hls hi hri
          obtain ⟨l', f', T', k', xs', fr', p1', g1', g2'⟩ := recM_real hls hj hrj
          have := h.apart l l' _ _ ri rj ri.blk g1 g2 g1' g2' (by simp [AObj.occ, hri]) (by simp [AObj.occ, hrj, hbb])
          subst this
          exact nodupO_idx hnd p1 p1'
        · obtain ⟨i, hi⟩ := List.mem_iff_getElem?.1 hr
          obtain ⟨l, f, T, k, xs, fr, _, g1, g2⟩ := recM_real hls hi hreal
          have ho := h.occ l _ r r.blk g1 g2 (by simp [AObj.occ, hreal])
          have hne : r.blk ≠ B := fun hb => by
            have := h.apart l 0 _ _ r _ r.blk g1 g2 h0 hb0 (by simp [AObj.occ, hreal]) (by simp [AObj.occ, hb])
            subst this
            rw [h0] at g1; simp at g1
          refine ⟨hne, ho.1, ?_⟩
          rcases ho.2 with h | h | h
          · exact .inl h
          · exact absurd h hne
          · exact .inr h
        · refine resR_of (argsR_mono (fun _ _ => rfl) (fun b hb => ?_) (adec_sound h q2 hz))
          have hb' : Cx.N ⟨w, N, fun b => b = B ∨ InD δ b, []⟩ s.heap β w' b := by
            cases fz with
            | true => exact Cx.fresh_N hb
            | false => exact hb
          refine ⟨?_, fun hbB => hb'.2.2 0 _ _ h0 hb0 (by simp [AObj.occ, hbB]), fun ⟨r, hr, hreal, hbb⟩ => ?_⟩
          · rcases hb'.1 with h1 | h1
            · exact .inl h1
            · exact .inr ⟨h1, hb'.2.1⟩
          · obtain ⟨i, hi⟩ := List.mem_iff_getElem?.1 hr
            obtain ⟨l, f, T, k, xs, fr, _, g1, g2⟩ := recM_real hls hi hreal
            exact hb'.2.2 l _ r g1 g2 (by simp [AObj.occ, hreal, hbb])
      · intro b hb
        have hb' : Cx.N ⟨w, N, fun b => b = B ∨ InD δ b, []⟩ s.heap β w' b := hb
        have hlsok := (decM_sound h (nf := false) (N1 := fun _ => True) (fun _ _ => trivial) c.m c.k cs0 us y' ls [] hus hd).1
        refine ⟨?_, fun hbB => hb'.2.2 0 _ _ h0 hb0 (by simp [AObj.occ, hbB]), fun ⟨r, hr, hreal, hbb⟩ => ?_⟩
        · rcases hb'.1 with h1 | h1
          · exact .inl h1
          · exact .inr ⟨h1, hb'.2.1⟩
        · obtain ⟨i, hi⟩ := List.mem_iff_getElem?.1 hr
          obtain ⟨l, f, T, k, xs, fr, _, g1, g2⟩ := recM_real hlsok hi hreal
          exact hb'.2.2 l _ r g1 g2 (by simp [AObj.occ, hreal, hbb])
    · rintro e' w' ⟨v, rfl, cs', δ', h1⟩
      exact ⟨v, cs', δ', rfl, h1⟩

theorem afunIO_sound' (hΓ : Γ.Sound P) (hyl : Γ.yl = []) (hm : P.follows .mixedOrders = true) {an : Ann} {f : FuncId} {fn : Func} (hf : P.funcs[f]? = some fn) (hn : (fn.name == "runtime.NumGoroutine") = false) (hbody : fn.body.isSome = true) {T : TypeId} {k : K} {m : M} {ps rs : List (Bool × K)}
    {model : PDen ((true, k) :: ps) → Option (PDen ((true, k) :: rs))} (hmod : (fun x => afunIO P Γ an fn T k m ps rs x) = model) : (IOc.mk T k m ps rs model).Sound P f := by
  obtain ⟨c, hc⟩ := Option.isSome_iff_exists.1 hbody
  exact afunIO_sound hΓ hyl hm hf hn hc (fun x y h => by rw [← hmod] at h; exact h)
end

/-! ### the caller's side -/
/-- What lies in the box: only what is new, or whatever. -/
def decMF (h : Heap) (m : M) (k : K) (cs : List AV) : Option (k.den × List (Option Nat × Nat) × Bool) :=
  match decM h true m k cs with
  | some (x, ls, []) => some (x, ls, true)
  | _ => match decM h false m k cs with
    | some (x, ls, []) => some (x, ls, false)
    | _ => none

def ioRows (ls : List (Option Nat × Nat)) : List Nat := ls.filterMap (·.1)

structure IOX (c : IOc) where
  x : PDen ((true, c.k) :: c.ps)
  l : Nat
  rows : List Nat
  fr : Bool

def IOc.dec (c : IOc) (h : Heap) : List TV → Option (IOX c)
  | .one (.ptr l 0) :: ts => match hat h l with
    | AObj.box T cs => if T = c.T then match decMF h c.m c.k cs with
      | some (x, ls, fr) => match adec h false c.ps ts with
        | some (a, f) => if nodupO (ls.map (·.1)) = true then some ⟨(x, a), l, ioRows ls, fr && f⟩ else none
        | none => none
      | none => none
      else none
    | _ => none
  | _ => none

/-- What a call turns: the box, and its rows. -/
def IOc.tch (c : IOc) (h : Heap) : List TV → List Nat
  | .one (.ptr l 0) :: _ => match hat h l with
    | AObj.box _ cs => match decMF h c.m c.k cs with
      | some (_, ls, _) => l :: ioRows ls
      | none => []
    | _ => []
  | _ => []

theorem IOc.dec_tch {c : IOc} {h : Heap} {ts : List TV} {X : IOX c} (e : c.dec h ts = some X) : c.tch h ts = X.l :: X.rows := by
  unfold IOc.dec at e
  split at e
  rotate_left
  · simp at e
  rename_i l ts'
  split at e
  rotate_left
  · simp at e
  rename_i T cs hb
  split at e
  rotate_left
  · simp at e
  split at e
  rotate_left
  · simp at e
  rename_i x ls fr hm
  split at e
  rotate_left
  · simp at e
  split at e
  rotate_left
  · simp at e
  simp only [Option.some.injEq] at e
  subst e
  simp only [IOc.tch, hb, hm]

def IOc.hd (c : IOc) : HD where
  X := IOX c
  Y := PDen ((true, c.k) :: c.rs)
  dec := c.dec
  model X := c.model X.x
  out h _ X y := ((killL h X.rows).set X.l (true, .box c.T (encM X.fr c.m h.length c.k y.1).1) ++ (encM X.fr c.m h.length c.k y.1).2.map fun o => (true, o), resTV (acomps X.fr c.rs y.2))
  touch := some c.tch
  touches := by
    intro f hf h ts x y hd
    simp only [Option.some.injEq] at hf
    subst hf
    rw [IOc.dec_tch hd]
    refine ⟨by simp [killL_len], fun l hl hn => ?_⟩
    have h1 : l ≠ x.l := fun e => hn (by simp [e])
    have h2 : l ∉ x.rows := fun e => hn (by simp [e])
    rw [List.getElem?_append_left (by simp [killL_len, hl]), List.getElem?_set_ne (Ne.symm h1), killL_ne _ _ _ h2]

theorem killL_some {h : Heap} : ∀ {T : List Nat} {l : Nat} {o : Bool × AObj}, (killL h T)[l]? = some o → o = (true, .dead) ∨ (h[l]? = some o ∧ l ∉ T)
  | [], l, o, e => .inr ⟨e, by simp⟩
  | x :: T, l, o, e => by
    simp only [killL] at e
    by_cases hx : x = l
    · subst hx
      left
      rw [List.getElem?_set] at e
      simp only [if_true] at e
      split at e
      · simpa using e.symm
      · simp at e
    · rw [List.getElem?_set_ne hx] at e
      rcases killL_some e with h | ⟨h1, h2⟩
      · exact .inl h
      · exact .inr ⟨h1, by simp [Ne.symm hx, h2]⟩

theorem ioRes_R {w : World} {N Nf : Nat → Prop} {β : List Bl} {fr : Bool} {rs : List (Bool × K)} {y : PDen rs} {v : Value} (h : resR w (if fr then Nf else N) rs y v) : (resTV (acomps fr rs y)).R w N Nf β v := by
  have comp : ∀ (b : Bool) (cs : List AV), compR w N Nf β (b, cs) v → ((shapeTV b cs).getD (.one .junk)).R w N Nf β v := by
    intro b cs hc
    cases b with
    | true => exact hc
    | false =>
      match cs, hc with
      | [c], hc => exact hc
  match rs, y, h with
  | [], y, h =>
    obtain ⟨vs, rfl, h1⟩ := h
    simp [argsR] at h1
    subst h1
    exact ⟨[], rfl, trivial⟩
  | [p], y, h =>
    have hc := acomps_R (β := β) (rs := [p]) (y := y) (vs := [v]) (N := N) (Nf := Nf) (fr := fr) ⟨v, [], rfl, h, rfl⟩
    exact comp _ _ hc.1
  | p :: q :: rs, y, h =>
    obtain ⟨vs, rfl, h1⟩ := h
    exact ⟨vs, rfl, acomps_R (β := β) (rs := p :: q :: rs) (y := y) h1⟩

theorem IOc.Sound.hd {P : Program} {f : FuncId} {c : IOc} (hc : c.Sound P f) : c.hd.Sound P f := by
  refine ⟨hc.1, fun X y hxy C s β a w ts vs h hvs hdec0 => ?_⟩
  have hdec : c.dec s.heap ts = some X := hdec0
  clear hdec0
  obtain ⟨y, z⟩ := y
  have hy1 : c.model X.x = some (y, z) := hxy
  unfold IOc.dec at hdec
  split at hdec
  rotate_left
  · simp at hdec
  rename_i l ts'
  split at hdec
  rotate_left
  · simp at hdec
  rename_i T cs hbox
  split at hdec
  rotate_left
  · simp at hdec
  rename_i hT
  subst hT
  split at hdec
  rotate_left
  · simp at hdec
  rename_i x ls frx hx
  split at hdec
  rotate_left
  · simp at hdec
  rename_i ar fa har
  split at hdec
  rotate_left
  · simp at hdec
  rename_i hnd
  have hX : (⟨(x, ar), l, ioRows ls, frx && fa⟩ : IOX c) = X := Option.some.inj hdec
  clear hdec
  subst hX
  match vs, hvs with
  | v0 :: vs, hvs =>
  obtain ⟨hv0, hvs⟩ := hvs
  obtain ⟨fl, rB, hl, hrB, us, hw, hbase, hus⟩ := h.obj hbox (by simp)
  obtain ⟨rB', hrB', hv0⟩ := hv0
  rw [hrB] at hrB'; cases hrB'
  have hv0 : v0 = .pointer (some ⟨rB.blk, 0, none⟩) := by rw [hv0]; simp [Bl.addr, hbase]
  subst hv0
  -- what is read
  generalize hfr : (frx && fa) = fr at *
  have hNd : ∀ b, Dec C s β w false fr b → b < w.heap.size ∧ Free s.heap β b := fun b hb => by
    cases fr with
    | true => exact ⟨hb.2.1, hb.2.2⟩
    | false => exact ⟨hb.2.1, hb.2.2⟩
  have hx' : LsOK s β ls ∧ rdM w (Dec C s β w false fr) c.m c.k x us (ls.map (recM β)) := by
    have key : ∀ nf : Bool, (nf = true ∨ fr = false) → decM s.heap nf c.m c.k cs = some (x, ls, []) → LsOK s β ls ∧ rdM w (Dec C s β w false fr) c.m c.k x us (ls.map (recM β)) := by
      intro nf hnf hd
      obtain ⟨q1, v1, v2, e12, hv2, q2⟩ := decM_sound h (nf := nf) (N1 := Dec C s β w false fr) (fun b hb => by
        cases nf with
        | true => cases fr with
          | true => exact hb
          | false => exact Cx.fresh_N hb
        | false => cases fr with
          | true => simp at hnf
          | false => exact hb) c.m c.k cs us x ls [] hus hd
      match v2, hv2 with
      | [], _ =>
      simp only [List.append_nil] at e12
      subst e12
      exact ⟨q1, q2⟩
    unfold decMF at hx
    split at hx
    · rename_i x1 ls1 hd
      simp only [Option.some.injEq, Prod.mk.injEq] at hx
      obtain ⟨rfl, rfl, rfl⟩ := hx
      exact key true (.inl rfl) hd
    · split at hx
      · rename_i x1 ls1 hd
        simp only [Option.some.injEq, Prod.mk.injEq] at hx
        obtain ⟨rfl, rfl, rfl⟩ := hx
        exact key false (.inr (by simpa using hfr.symm)) hd
      · simp at hx
  obtain ⟨hls, hrd⟩ := hx'
  have hargs : argsR w (Dec C s β w false fr) c.ps ar vs := argsR_mono (fun _ _ => rfl) (fun b hb => hb.weak (by rw [← hfr]; simp)) (adec_sound h hvs har)
  have rowsOK : ∀ {i : Nat} {r : Bl}, (ls.map (recM β))[i]? = some r → r.real = true → ∃ l' f T k xs q, (ls.map (·.1))[i]? = some (some l') ∧ s.heap[l']? = some (f, .vec T k xs q) ∧ β[l']? = some r ∧ l' ∈ ioRows ls := by
    intro i r hi hr
    obtain ⟨l', f, T, k, xs, q, g1, g2, g3⟩ := recM_real hls hi hr
    refine ⟨l', f, T, k, xs, q, g1, g2, g3, ?_⟩
    rw [List.getElem?_map] at g1
    obtain ⟨p, hp, hp2⟩ := Option.map_eq_some_iff.1 g1
    exact List.mem_filterMap.2 ⟨p, List.mem_of_getElem? hp, hp2⟩
  have rowsMem : ∀ {l' : Nat}, l' ∈ ioRows ls → ∃ f T k xs q, s.heap[l']? = some (f, .vec T k xs q) := by
    intro l' hm
    obtain ⟨p, hp, hp2⟩ := List.mem_filterMap.1 hm
    obtain ⟨o, zz⟩ := p
    simp only at hp2
    subst hp2
    obtain ⟨f, T, k, xs, q, g, _⟩ := hls l' zz hp
    exact ⟨f, T, k, xs, q, g⟩
  have hlne : l ∉ ioRows ls := fun hm => by
    obtain ⟨f, T, k, xs, q, g⟩ := rowsMem hm
    rw [hl] at g; simp at g
  have hap : Apart (ls.map (recM β)) := fun i j ri rj hi hj hri hrj hbb => by
    obtain ⟨l1, f, T, k, xs, q, p1, g1, g2, _⟩ := rowsOK hi hri
    obtain ⟨l2, f', T', k', xs', q', p1', g1', g2', _⟩ := rowsOK hj hrj
    have := h.apart l1 l2 _ _ ri rj ri.blk g1 g2 g1' g2' (by simp [AObj.occ, hri]) (by simp [AObj.occ, hrj, hbb])
    subst this
    exact nodupO_idx hnd p1 p1'
  have hin : ∀ b, InD (ls.map (recM β)) b → ∃ l' o r, l' ∈ ioRows ls ∧ s.heap[l']? = some o ∧ β[l']? = some r ∧ b ∈ o.2.occ r := by
    rintro b ⟨r, hr, hreal, rfl⟩
    obtain ⟨i, hi⟩ := List.mem_iff_getElem?.1 hr
    obtain ⟨l', f, T, k, xs, q, p1, g1, g2, g3⟩ := rowsOK hi hreal
    exact ⟨l', _, r, g3, g1, g2, by simp [AObj.occ, hreal]⟩
  have hδ : ∀ r ∈ ls.map (recM β), r.real = true → r.blk ≠ rB.blk ∧ r.blk < w.heap.size := fun r hr hreal => by
    obtain ⟨l', o, r', g0, g1, g2, g3⟩ := hin r.blk ⟨r, hr, hreal, rfl⟩
    refine ⟨fun hbb => ?_, (h.occ l' o r' _ g1 g2 g3).1⟩
    have := h.apart l' l _ _ r' rB r.blk g1 g2 hl hrB g3 (by simp [AObj.occ, hbb])
    subst this
    exact hlne g0
  refine (hc.2 x ar y z hy1 w (Dec C s β w false fr) rB.blk us (ls.map (recM β)) vs hw hrd hap hδ (fun b hb => ?_) hargs).mono ?_
  · obtain ⟨h1, h2⟩ := hNd b hb
    refine ⟨h1, fun hbb => h2 l _ rB hl hrB (by simp [AObj.occ, hbb]), fun hi => ?_⟩
    obtain ⟨l', o, r', _, g1, g2, g3⟩ := hin b hi
    exact h2 l' o r' g1 g2 g3
  rintro e' w' ⟨v, cs', δ', rfl, hk, hw', hrd', hap', hδ', hres⟩
  have hks := h.keep.size
  obtain ⟨e1, e2, e3⟩ := rdM_enc fr c.m c.k y cs' δ' s.heap.length hrd'
  generalize hobj : (encM fr c.m s.heap.length c.k y).2 = objs at e1 e2
  generalize hcel : (encM fr c.m s.heap.length c.k y).1 = cells at e3
  let h' : Heap := (killL s.heap (ioRows ls)).set l (true, .box c.T cells) ++ objs.map fun o => (true, o)
  have hlen0 : ((killL s.heap (ioRows ls)).set l (true, AObj.box c.T cells)).length = s.heap.length := by simp [killL_len]
  have hll : l < s.heap.length := (List.getElem?_eq_some_iff.1 hl).1
  -- what lies there now
  have hget : ∀ (l1 : Nat) (o : Bool × AObj) (r : Bl), h'[l1]? = some o → (β ++ δ')[l1]? = some r →
      (l1 = l ∧ o = (true, .box c.T cells) ∧ r = rB) ∨ (l1 ≠ l ∧ l1 ∈ ioRows ls ∧ o = (true, .dead)) ∨ (l1 ≠ l ∧ l1 ∉ ioRows ls ∧ s.heap[l1]? = some o ∧ β[l1]? = some r) ∨ (∃ i, l1 = s.heap.length + i ∧ δ'[i]? = some r ∧ Handed w' (ioN w w' (Dec C s β w false fr) rB.blk δ') fr o.2 r) := by
    intro l1 o r ho hr
    by_cases h1 : l1 < s.heap.length
    · have ho : ((killL s.heap (ioRows ls)).set l (true, AObj.box c.T cells))[l1]? = some o := by
        have ho : (((killL s.heap (ioRows ls)).set l (true, AObj.box c.T cells)) ++ _)[l1]? = some o := ho
        rwa [List.getElem?_append_left (by rw [hlen0]; exact h1)] at ho
      rw [List.getElem?_append_left (by rw [h.bsize]; exact h1)] at hr
      by_cases e : l1 = l
      · subst e
        rw [List.getElem?_set_self (by rw [killL_len]; exact h1)] at ho
        simp only [Option.some.injEq] at ho
        rw [hrB] at hr
        simp only [Option.some.injEq] at hr
        exact .inl ⟨rfl, ho.symm, hr.symm⟩
      · rw [List.getElem?_set_ne (Ne.symm e)] at ho
        by_cases hm : l1 ∈ ioRows ls
        · have hd := killL_mem s.heap (ioRows ls) l1 hm
          rcases killL_some ho with hq | ⟨_, hq⟩
          · exact .inr (.inl ⟨e, hm, hq⟩)
          · exact absurd hm hq
        · rw [killL_ne _ _ _ hm] at ho
          exact .inr (.inr (.inl ⟨e, hm, ho, hr⟩))
    · have ho : (objs.map fun o => ((true, o) : Bool × AObj))[l1 - s.heap.length]? = some o := by
        have ho : (((killL s.heap (ioRows ls)).set l (true, AObj.box c.T cells)) ++ objs.map fun o => ((true, o) : Bool × AObj))[l1]? = some o := ho
        rwa [List.getElem?_append_right (by rw [hlen0]; omega), hlen0] at ho
      rw [List.getElem?_append_right (by rw [h.bsize]; omega), h.bsize] at hr
      rw [List.getElem?_map] at ho
      obtain ⟨o', ho', rfl⟩ := Option.map_eq_some_iff.1 ho
      exact .inr (.inr (.inr ⟨l1 - s.heap.length, by omega, hr, e2 _ _ _ ho' hr⟩))
  have hnewB : ∀ (r : Bl) (i : Nat), δ'[i]? = some r → r.real = true → r.blk ≠ rB.blk ∧ r.blk < w'.heap.size ∧ (w.heap.size ≤ r.blk ∨ InD (ls.map (recM β)) r.blk) := fun r i hi hreal => hδ' r (List.mem_of_getElem? hi) hreal
  have reach : ∀ b, ioN w w' (Dec C s β w false fr) rB.blk δ' b → (if fr then C.fresh h' (β ++ δ') w' else C.N h' (β ++ δ') w') b := by
    rintro b ⟨hb, hbB, hbD⟩
    have hfree : (w.heap.size ≤ b ∨ Free s.heap β b) → Free h' (β ++ δ') b := by
      intro hor l1 o r ho hr hbo
      rcases hget l1 o r ho hr with ⟨rfl, rfl, rfl⟩ | ⟨_, _, rfl⟩ | ⟨_, _, g1, g2⟩ | ⟨i, _, g2, g3⟩
      · exact hbB (by simpa [AObj.occ] using hbo)
      · simp [AObj.occ] at hbo
      · rcases hor with hge | hfr2
        · have := (h.occ l1 o r b g1 g2 hbo).1; omega
        · exact hfr2 l1 o r g1 g2 hbo
      · obtain ⟨hreal, hb2⟩ := handed_occ g3 hbo
        exact hbD ⟨r, List.mem_of_getElem? g2, hreal, hb2⟩
    cases fr with
    | true =>
      rcases hb with hb | hb
      · exact ⟨hb.1, by have := hb.2.1; have := hk.size; omega, hfree (.inr hb.2.2)⟩
      · exact ⟨by omega, hb.2, hfree (.inl hb.1)⟩
    | false =>
      rcases hb with hb | hb
      · exact ⟨hb.1, by have := hb.2.1; have := hk.size; omega, hfree (.inr hb.2.2)⟩
      · exact ⟨.inr (by omega), hb.2, hfree (.inl hb.1)⟩
  have hgen := h.gen (hdr := hk.drawn) h' δ' w' (fun l1 => l1 = l ∨ l1 ∈ ioRows ls) hk.os hk.tape hk.output hk.size (by simp [h', killL_len, e1])
    (fun l1 o ho hn => ⟨o, by
      have h1 : l1 ≠ l := fun e => hn (.inl e)
      have h2 : l1 ∉ ioRows ls := fun e => hn (.inr e)
      show (((killL s.heap (ioRows ls)).set l (true, AObj.box c.T cells)) ++ _)[l1]? = some o
      rw [List.getElem?_append_left (by rw [hlen0]; exact (List.getElem?_eq_some_iff.1 ho).1), List.getElem?_set_ne (Ne.symm h1), killL_ne _ _ _ h2]; exact ho, rfl⟩)
    (fun l1 _ ho => by
      have h1 : l1 ≠ l := fun e => by subst e; rw [hl] at ho; simp at ho
      have h2 : l1 ∉ ioRows ls := fun e => by
        obtain ⟨f, T, k, xs, q, g⟩ := rowsMem e
        rw [ho] at g; simp at g
      show (((killL s.heap (ioRows ls)).set l (true, AObj.box c.T cells)) ++ _)[l1]? = _
      rw [List.getElem?_append_left (by rw [hlen0]; exact (List.getElem?_eq_some_iff.1 ho).1), List.getElem?_set_ne (Ne.symm h1), killL_ne _ _ _ h2]; exact ho)
    (fun b hb hx => hk.block b hb (fun hF => by
      rcases hF with rfl | hF
      · exact hx l _ rB hl hrB (.inl rfl) (by simp [AObj.occ])
      · obtain ⟨l', o, r', g0, g1, g2, g3⟩ := hin b hF
        exact hx l' o r' g1 g2 (.inr g0) g3))
    (fun l1 o r b ho hr hch hbo => by
      rcases hget l1 o r ho hr with ⟨rfl, rfl, rfl⟩ | ⟨_, _, rfl⟩ | ⟨h1, h2, g1, g2⟩ | ⟨i, _, g2, g3⟩
      · have hb2 : b = r.blk := by simpa [AObj.occ] using hbo
        subst hb2
        exact ⟨(Array.getElem?_eq_some_iff.1 hw').1, .inr ⟨_, _, r, hl, hrB, .inl rfl, by simp [AObj.occ]⟩⟩
      · simp [AObj.occ] at hbo
      · rcases hch with (hch | hch) | hch
        · exact absurd hch h1
        · exact absurd hch h2
        · have := (List.getElem?_eq_some_iff.1 g1).1; omega
      · obtain ⟨hreal, rfl⟩ := handed_occ g3 hbo
        obtain ⟨_, q2, q3⟩ := hnewB r i g2 hreal
        refine ⟨q2, ?_⟩
        rcases q3 with q3 | q3
        · exact .inl q3
        · obtain ⟨l', o', r', g0, g1, g2, g3⟩ := hin _ q3
          exact .inr ⟨l', o', r', g1, g2, .inr g0, g3⟩)
    (fun l1 l2 o1 o2 r1 r2 b ho1 hr1 ho2 hr2 hch1 hch2 hb1 hb2 => by
      have cls : ∀ (l1 : Nat) (o : Bool × AObj) (r : Bl), h'[l1]? = some o → (β ++ δ')[l1]? = some r → ((l1 = l ∨ l1 ∈ ioRows ls) ∨ s.heap.length ≤ l1) → b ∈ o.2.occ r → (l1 = l ∧ b = rB.blk) ∨ ∃ i, l1 = s.heap.length + i ∧ δ'[i]? = some r ∧ r.real = true ∧ b = r.blk := by
        intro l1 o r ho hr hch hbo
        rcases hget l1 o r ho hr with ⟨rfl, rfl, rfl⟩ | ⟨_, _, rfl⟩ | ⟨h1, h2, g1, g2⟩ | ⟨i, hi, g2, g3⟩
        · exact .inl ⟨rfl, by simpa [AObj.occ] using hbo⟩
        · simp [AObj.occ] at hbo
        · rcases hch with (hch | hch) | hch
          · exact absurd hch h1
          · exact absurd hch h2
          · have := (List.getElem?_eq_some_iff.1 g1).1; omega
        · obtain ⟨hreal, hb⟩ := handed_occ g3 hbo
          exact .inr ⟨i, hi, g2, hreal, hb⟩
      rcases cls l1 o1 r1 ho1 hr1 hch1 hb1 with ⟨rfl, rfl⟩ | ⟨i, rfl, hi, hreal, rfl⟩
      · rcases cls l2 o2 r2 ho2 hr2 hch2 hb2 with ⟨rfl, _⟩ | ⟨j, rfl, hj, hreal', hb⟩
        · rfl
        · exact absurd hb.symm (hnewB r2 j hj hreal').1
      · rcases cls l2 o2 r2 ho2 hr2 hch2 hb2 with ⟨rfl, hb⟩ | ⟨j, rfl, hj, hreal', hb⟩
        · exact absurd hb (hnewB r1 i hi hreal).1
        · rw [hap' i j r1 r2 hi hj hreal hreal' hb])
    (fun l1 o r ho hr hch _ _ _ _ => by
      rcases hget l1 o r ho hr with ⟨rfl, rfl, rfl⟩ | ⟨_, _, rfl⟩ | ⟨h1, h2, g1, g2⟩ | ⟨i, hi, g2, g3⟩
      · exact ⟨cs', hw', hbase, e3 _ _ _ reach (fun i r hi => by rw [← h.bsize, List.getElem?_append_right (by omega)]; simpa using hi)⟩
      · trivial
      · rcases hch with (hch | hch) | hch
        · exact absurd hch h1
        · exact absurd hch h2
        · have := (List.getElem?_eq_some_iff.1 g1).1; omega
      · exact handed_R g3 reach)
  obtain ⟨h2, mv⟩ := hgen
  refine ⟨v, β ++ δ', rfl, ?_, ?_, ⟨δ', rfl⟩, ?_, fun l1 o hl1 ho => ?_, fun l1 ho => ?_⟩
  · show Rel C { s with heap := ((killL s.heap (ioRows ls)).set l (true, .box c.T (encM fr c.m s.heap.length c.k y).1) ++ (encM fr c.m s.heap.length c.k y).2.map fun o => (true, o)) } (β ++ δ') a w'
    rw [hobj, hcel]; exact h2
  · show TV.R w' (C.N ((killL s.heap (ioRows ls)).set l (true, .box c.T (encM fr c.m s.heap.length c.k y).1) ++ (encM fr c.m s.heap.length c.k y).2.map fun o => (true, o)) (β ++ δ') w') (C.fresh ((killL s.heap (ioRows ls)).set l (true, .box c.T (encM fr c.m s.heap.length c.k y).1) ++ (encM fr c.m s.heap.length c.k y).2.map fun o => (true, o)) (β ++ δ') w') (β ++ δ') (resTV (acomps fr c.rs z)) v
    rw [hobj, hcel]
    have hres2 : resR w' (if fr then C.fresh h' (β ++ δ') w' else C.N h' (β ++ δ') w') c.rs z v := by
      have mono : ∀ {M M' : Nat → Prop}, (∀ b, M b → M' b) → resR w' M c.rs z v → resR w' M' c.rs z v := by
        intro M M' hM hr
        unfold resR at hr ⊢
        split at hr
        · exact valR_mono (fun _ _ => rfl) hM hr
        · obtain ⟨us, e1, h1⟩ := hr
          exact ⟨us, e1, argsR_mono (fun _ _ => rfl) hM h1⟩
      refine mono (fun b hb => ?_) hres
      have := reach b hb
      cases fr <;> exact this
    exact ioRes_R hres2
  · show _ ≤ (((killL s.heap (ioRows ls)).set l _) ++ _).length
    simp [killL_len]
  · have ho : (((killL s.heap (ioRows ls)).set l (true, .box c.T (encM fr c.m s.heap.length c.k y).1)) ++ (encM fr c.m s.heap.length c.k y).2.map fun o => ((true, o) : Bool × AObj))[l1]? = some (false, o) := ho
    rw [hobj, hcel] at ho
    have hr : ∃ r, (β ++ δ')[l1]? = some r := ⟨_, List.getElem?_eq_getElem (by simp [h.bsize]; omega)⟩
    obtain ⟨r, hr⟩ := hr
    rcases hget l1 _ r ho hr with ⟨_, hq, _⟩ | ⟨_, _, hq⟩ | ⟨_, _, g1, _⟩ | ⟨i, hi, _⟩
    · simp at hq
    · simp at hq
    · exact g1
    · omega
  · show (((killL s.heap (ioRows ls)).set l (true, .box c.T (encM fr c.m s.heap.length c.k y).1)) ++ (encM fr c.m s.heap.length c.k y).2.map fun o => ((true, o) : Bool × AObj))[l1]? = some (true, .mark)
    have h1 : l1 ≠ l := fun e => by subst e; rw [hl] at ho; simp at ho
    have h2 : l1 ∉ ioRows ls := fun e => by
      obtain ⟨f, T, k, xs, q, g⟩ := rowsMem e
      rw [ho] at g; simp at g
    rw [List.getElem?_append_left (by simp [killL_len]; exact (List.getElem?_eq_some_iff.1 ho).1), List.getElem?_set_ne (Ne.symm h1), killL_ne _ _ _ h2]; exact ho
end Go.Proofs.AM
end

section
/- Functions that are handed a row of one's own: what becomes of it, and the rows that are handed out. -/
namespace Go.Proofs.AM
open Go Go.RowKit

structure IRc where
  T : TypeId
  k : K
  ps : List (Bool × K)
  rs : List (Bool × K)
  ms : List M
  model : PDen ((false, .sl k) :: ps) → Option (PDen ((false, .sl k) :: rs))

def irN (w w' : World) (N : Nat → Prop) (δ' : List Bl) (b : Nat) : Prop := (N b ∨ (w.heap.size ≤ b ∧ b < w'.heap.size)) ∧ ¬ InD δ' b

def IRc.Sound (P : Program) (f : FuncId) (c : IRc) : Prop :=
  (∀ args w, (callFunc f args).run P w = .ok (.enter f args) w) ∧
  ∀ (x : List c.k.den) (a : PDen c.ps) (y : List c.k.den) (z : PDen c.rs), c.model (x, a) = some (y, z) → ∀ (w : World) (N : Nat → Prop) (r : Bl) (A : Option Addr) (cp : Nat) (args : List Value),
    r.n ≤ cp → r.slice A 0 r.n cp → (AObj.vec c.T c.k x false).R w N N [] r → (r.real = true → r.blk < w.heap.size) →
    (∀ b, N b → b < w.heap.size ∧ ¬ InD [r] b) → argsR w N c.ps a args →
    Calls P f (Value.slice A r.n cp :: args).toArray w fun e w' => ∃ v δ', e = .returned v ∧ Kept (InD [r]) w w' ∧
      (AObj.vec c.T c.k y false).R w' (irN w w' N (r :: δ')) (irN w w' N (r :: δ')) [] r ∧ Apart (r :: δ') ∧
      (∀ r' ∈ δ', r'.real = true → r'.blk < w'.heap.size ∧ w.heap.size ≤ r'.blk) ∧
      resM w' (irN w w' N (r :: δ')) c.rs c.ms z v δ'

/-! ### the function's side -/
def irInit (fn : Func) (c : IRc) (x : PDen ((false, .sl c.k) :: c.ps)) : AS :=
  { tmps := .one (.vf 0) :: (aargs c.ps x.2 ++ List.replicate (fn.ntmps - c.ps.length - 1) undefTV), heap := [(true, .vec c.T c.k x.1 false)], marks := [] }

def afinIR (P : Program) (fn : Func) (c : IRc) (s : AS) : Option (PDen ((false, .sl c.k) :: c.rs)) :=
  match aresults P s fn.results.toList with
  | some ts => match decV s.heap c.T c.k false (.vf 0) with
    | some (y, _) => match decMs s.heap false c.rs c.ms ts with
      | some (z, ls) => if nodupO (some 0 :: ls.map (·.1)) = true then some (y, z) else none
      | none => none
    | none => none
  | none => none

noncomputable def afunIR (P : Program) (Γ : Env) (an : Ann) (fn : Func) (T : TypeId) (k : K) (ps rs : List (Bool × K)) (ms : List M) (x : PDen ((false, .sl k) :: ps)) : Option (PDen ((false, .sl k) :: rs)) :=
  match fn.body with
  | none => none
  | some code => arun P Γ an code (PDen ((false, .sl k) :: rs)) none 0 (irInit fn ⟨T, k, ps, rs, ms, fun _ => none⟩ x)
      { norm := aendI 1 (afinIR P fn ⟨T, k, ps, rs, ms, fun _ => none⟩), exit := fun _ _ => none, ret := aendI 1 (afinIR P fn ⟨T, k, ps, rs, ms, fun _ => none⟩) }

section
variable {P : Program} {Γ : Env}

theorem irinit_rel {fn : Func} {c : IRc} {x : List c.k.den} {a : PDen c.ps} {w : World} {N : Nat → Prop} {r : Bl} {A : Option Addr} {cp : Nat} {args : List Value}
    (hle : r.n ≤ cp) (hsl : r.slice A 0 r.n cp) (hx : (AObj.vec c.T c.k x false).R w N N [] r) (hr : r.real = true → r.blk < w.heap.size)
    (hN : ∀ b, N b → b < w.heap.size ∧ ¬ InD [r] b) (hargs : argsR w N c.ps a args) :
    Rel ⟨w, N, InD [r], []⟩ (irInit fn c (x, a)) [r]
      { tmps := (Value.slice A r.n cp :: args).toArray ++ Array.replicate (fn.ntmps - (Value.slice A r.n cp :: args).toArray.size) undef, defers := [] } w := by
  have hA := aargs_R (Nf := fun _ => False) hargs
  have hlen : args.length = c.ps.length := by rw [← All2.len' hA, aargs_len]
  have hob : ∀ (l : Nat) (o : Bool × AObj) (r' : Bl), (irInit fn c (x, a)).heap[l]? = some o → ([r] : List Bl)[l]? = some r' → l = 0 ∧ o = (true, .vec c.T c.k x false) ∧ r' = r := by
    intro l o r' ho hr
    cases l with
    | zero =>
      simp only [irInit, List.getElem?_cons_zero, Option.some.injEq] at ho hr
      exact ⟨rfl, ho.symm, hr.symm⟩
    | succ i => simp at hr
  have hocc : ∀ (l : Nat) (o : Bool × AObj) (r' : Bl) (b : Nat), (irInit fn c (x, a)).heap[l]? = some o → ([r] : List Bl)[l]? = some r' → b ∈ o.2.occ r' → l = 0 ∧ r.real = true ∧ b = r.blk := by
    intro l o r' b ho hr hb
    obtain ⟨rfl, rfl, rfl⟩ := hob l o r' ho hr
    simp only [AObj.occ] at hb
    split at hb
    · rename_i hreal; exact ⟨rfl, hreal, by simpa using hb⟩
    · simp at hb
  have hN' : ∀ b, N b → Cx.N ⟨w, N, InD [r], []⟩ (irInit fn c (x, a)).heap [r] w b := fun b hb => by
    obtain ⟨h1, h3⟩ := hN b hb
    refine ⟨.inl hb, h1, fun l o r' ho hr hx => ?_⟩
    obtain ⟨_, h2, h4⟩ := hocc l o r' b ho hr hx
    exact h3 ⟨r, by simp, h2, h4⟩
  refine { defers := ⟨[], rfl, trivial⟩, tsize := ?_, tm := ?_, bsize := rfl, ob := fun l o r' ho hr => ?_, occ := fun l o r' b ho hr' hb => ?_, apart := fun l l' o o' r1 r' b h1 h2 h3 h4 h5 h6 => ?_, keep := Kept.refl _ _, frs := fun f hf => by simp at hf }
  · simp [irInit, aargs_len, hlen]; omega
  · intro i t hi
    cases i with
    | zero =>
      simp only [irInit, List.getElem?_cons_zero, Option.some.injEq] at hi
      subst hi
      refine ⟨r, A, cp, rfl, ?_, hle, hsl⟩
      rw [Array.getD_eq_getD_getElem?, Array.getElem?_append_left (by simp)]
      simp
    | succ i =>
      simp only [irInit, List.getElem?_cons_succ] at hi
      by_cases hl : i < c.ps.length
      · rw [List.getElem?_append_left (by rw [aargs_len]; exact hl)] at hi
        obtain ⟨v, hv, hR⟩ := All2.get2 hA hi
        have : ((Value.slice A r.n cp :: args).toArray ++ Array.replicate (fn.ntmps - (Value.slice A r.n cp :: args).toArray.size) undef).getD (i + 1) undef = v := by
          rw [Array.getD_eq_getD_getElem?, Array.getElem?_append_left (by simpa [hlen] using hl)]
          simp [hv]
        show t.R w _ _ _ _
        rw [this]
        exact TV.R_mono (AV.R_mono (fun _ _ => rfl) hN' (fun b hb => hb.elim) (fun b hb => hb.elim) (fun l r h => by simp at h)) _ _ hR
      · rw [List.getElem?_append_right (by rw [aargs_len]; omega), aargs_len, List.getElem?_replicate] at hi
        split at hi
        · cases hi
          have : ((Value.slice A r.n cp :: args).toArray ++ Array.replicate (fn.ntmps - (Value.slice A r.n cp :: args).toArray.size) undef).getD (i + 1) undef = undef := by
            rw [Array.getD_eq_getD_getElem?, Array.getElem?_append_right (by simpa [hlen] using hl)]
            simp [Array.getElem?_replicate]
            split <;> rfl
          show undefTV.R w _ _ _ _
          rw [this]
          exact undefTV_R
        · simp at hi
  · obtain ⟨rfl, rfl, rfl⟩ := hob l o r' ho hr
    obtain ⟨p1, p2, p3, p4⟩ := hx
    refine ⟨p1, p2, p3, ?_⟩
    by_cases hreal : r'.real = true
    · simp only [hreal, if_true] at p4 ⊢
      obtain ⟨pre, mid, post, hh, hp, hrow, hcap⟩ := p4
      exact ⟨pre, mid, post, hh, hp, rows_weak (fun _ _ => rfl) (fun b hb => hN' b hb) hrow, hcap⟩
    · simp only [hreal] at p4 ⊢
      exact p4
  · obtain ⟨_, h2, rfl⟩ := hocc l o r' b ho hr' hb
    exact ⟨hr h2, .inr ⟨r, by simp, h2, rfl⟩⟩
  · obtain ⟨rfl, _, _⟩ := hocc l o r1 b h1 h2 h5
    obtain ⟨rfl, _, _⟩ := hocc l' o' r' b h3 h4 h6
    rfl

theorem afunIR_sound (hΓ : Γ.Sound P) (hyl : Γ.yl = []) (hm : P.follows .mixedOrders = true) {an : Ann} {f : FuncId} {fn : Func} (hf : P.funcs[f]? = some fn) (hn : (fn.name == "runtime.NumGoroutine") = false) {c : IRc} {code : Code} (hbody : fn.body = some code)
    (hmod : ∀ x y, c.model x = some y → afunIR P Γ an fn c.T c.k c.ps c.rs c.ms x = some y) : c.Sound P f := by
  refine ⟨fun args w => ?_, fun x a y z hxy w N r A cp args hle hsl hx hr hN hargs => ?_⟩
  · have h1 : fn.name ≠ "runtime.NumGoroutine" := by simpa using hn
    simp [callFunc, hf, h1, hbody, mark]
  · have e := hmod (x, a) (y, z) hxy
    simp only [afunIR, hbody] at e
    have hrel := irinit_rel (fn := fn) (c := ⟨c.T, c.k, c.ps, c.rs, c.ms, fun _ => none⟩) hle hsl hx hr hN hargs
    refine ((body_coreI hΓ hm hf hbody hrel 1 (by simp) (by simp [irInit]) (by rw [hyl]; exact YOK.nil _ _ _) e (S := fun v w' => ∃ δ', Kept (InD [r]) w w' ∧
      (AObj.vec c.T c.k y false).R w' (irN w w' N (r :: δ')) (irN w w' N (r :: δ')) [] r ∧ Apart (r :: δ') ∧
      (∀ r' ∈ δ', r'.real = true → r'.blk < w'.heap.size ∧ w.heap.size ≤ r'.blk) ∧
      resM w' (irN w w' N (r :: δ')) c.rs c.ms z v δ') ?_)).mono ?_
    · intro s β a' w' hG h hgr
      unfold afinIR at hG
      split at hG
      rotate_left
      · simp at hG
      rename_i ts hts
      obtain ⟨vs, q1, q2⟩ := aresults_sound h hts
      split at hG
      rotate_left
      · simp at hG
      rename_i y' o0 h0
      split at hG
      rotate_left
      · simp at hG
      rename_i z' ls hd
      split at hG
      rotate_left
      · simp at hG
      rename_i hnd
      simp only [Option.some.injEq, Prod.mk.injEq] at hG
      obtain ⟨rfl, rfl⟩ := hG
      obtain ⟨δ2, hβ⟩ := hgr.bx
      have hb0 : β[0]? = some r := by rw [hβ]; rfl
      rcases decV_some h0 with ⟨hbad, _⟩ | ⟨l0, fl, hl0, _, ho, _⟩
      · simp at hbad
      simp only [AV.vf.injEq] at hl0
      subst hl0
      obtain ⟨ff, r', g1, g2, gR⟩ := h.obj ho (by simp)
      rw [hb0] at g2; cases g2
      have hd' : decMs s.heap false c.rs c.ms ts = some (z', ls) := hd
      have hlsok0 := (decMs_sound h (nf := false) (N1 := fun _ => True) (fun _ _ => trivial) c.rs c.ms ts vs z' ls q2 hd').1
      have hls : LsOK s β ((some 0, 0) :: ls) := fun l zz hm => by
        rcases List.mem_cons.1 hm with hm | hm
        · simp only [Prod.mk.injEq, Option.some.injEq] at hm
          obtain ⟨rfl, _⟩ := hm
          exact ⟨ff, _, _, _, _, g1, (List.getElem?_eq_some_iff.1 hb0).1⟩
        · exact hlsok0 l zz hm
      have hmap : r :: ls.map (recM β) = (((some 0, 0) :: ls : List (Option Nat × Nat))).map (recM β) := by
        simp [recM, hb0]
      have hnd' : nodupO ((((some 0, 0) :: ls : List (Option Nat × Nat))).map (·.1)) = true := hnd
      have hap : Apart (r :: ls.map (recM β)) := by
        rw [hmap]
        intro i j ri rj hi hj hri hrj hbb
        obtain ⟨l1, f, T, k, xs, fr, p1, e1, e2⟩ := recM_real hls hi hri
        obtain ⟨l2, f', T', k', xs', fr', p1', e1', e2'⟩ := recM_real hls hj hrj
        have := h.apart l1 l2 _ _ ri rj ri.blk e1 e2 e1' e2' (by simp [AObj.occ, hri]) (by simp [AObj.occ, hrj, hbb])
        subst this
        exact nodupO_idx hnd' p1 p1'
      have hfree : ∀ b, Cx.N ⟨w, N, InD [r], []⟩ s.heap β w' b → irN w w' N (r :: ls.map (recM β)) b := fun b hb => by
        refine ⟨?_, fun hin => ?_⟩
        · rcases hb.1 with h1 | h1
          · exact .inl h1
          · exact .inr ⟨h1, hb.2.1⟩
        · rw [hmap] at hin
          obtain ⟨r1, hr1, hreal, hbb⟩ := hin
          obtain ⟨i, hi⟩ := List.mem_iff_getElem?.1 hr1
          obtain ⟨l1, f, T, k, xs, fr, _, e1, e2⟩ := recM_real hls hi hreal
          exact hb.2.2 l1 _ r1 e1 e2 (by simp [AObj.occ, hreal, hbb])
      have key := decMs_sound h (nf := false) (N1 := irN w w' N (r :: ls.map (recM β))) (fun b hb => hfree b hb) c.rs c.ms ts vs z' ls q2 hd'
      refine ⟨_, results_run q1, ls.map (recM β), h.keep, ?_, hap, fun r' hr' hreal => ?_, vs, rfl, key.2⟩
      · obtain ⟨p1, p2, p3, p4⟩ := gR
        refine ⟨p1, p2, p3, ?_⟩
        by_cases hreal : r.real = true
        · simp only [hreal, if_true] at p4 ⊢
          obtain ⟨pre, mid, post, hh, hp, hrow, hcap⟩ := p4
          refine ⟨pre, mid, post, hh, hp, rows_weak (fun _ _ => rfl) (fun b hb => hfree b ?_) hrow, hcap⟩
          cases fl with
          | true => exact Cx.fresh_N hb
          | false => exact hb
        · simp only [hreal] at p4 ⊢
          exact p4
      · obtain ⟨i, hi⟩ := List.mem_iff_getElem?.1 hr'
        obtain ⟨l1, f, T, k, xs, fr, p1, e1, e2⟩ := recM_real hlsok0 hi hreal
        have ho := h.occ l1 _ r' r'.blk e1 e2 (by simp [AObj.occ, hreal])
        refine ⟨ho.1, ho.2.resolve_right fun hin => ?_⟩
        obtain ⟨r1, hr1, hreal1, hbb⟩ := hin
        have hr1 : r1 = r := by simpa using hr1
        subst hr1
        have := hap 0 (i + 1) r1 r' rfl (by simpa using hi) hreal1 hreal hbb.symm
        omega
    · rintro e' w' ⟨v, rfl, δ', h1⟩
      exact ⟨v, δ', rfl, h1⟩
theorem afunIR_sound' (hΓ : Γ.Sound P) (hyl : Γ.yl = []) (hm : P.follows .mixedOrders = true) {an : Ann} {f : FuncId} {fn : Func} (hf : P.funcs[f]? = some fn) (hn : (fn.name == "runtime.NumGoroutine") = false) (hbody : fn.body.isSome = true) {T : TypeId} {k : K} {ps rs : List (Bool × K)} {ms : List M}
    {model : PDen ((false, .sl k) :: ps) → Option (PDen ((false, .sl k) :: rs))} (hmod : (fun x => afunIR P Γ an fn T k ps rs ms x) = model) : (IRc.mk T k ps rs ms model).Sound P f := by
  obtain ⟨c, hc⟩ := Option.isSome_iff_exists.1 hbody
  exact afunIR_sound hΓ hyl hm hf hn hc (fun x y h => by rw [← hmod] at h; exact h)
end

/-! ### the caller's side -/
structure IRX (c : IRc) where
  x : PDen ((false, .sl c.k) :: c.ps)
  l : Nat
  fr : Bool

def IRc.dec (c : IRc) (h : Heap) : List TV → Option (IRX c)
  | .one (.vf l) :: ts => match decV h c.T c.k true (.vf l) with
    | some (xs, _) => match adec h false c.ps ts with
      | some (a, f) => some ⟨(xs, a), l, f⟩
      | none => none
    | none => match decV h c.T c.k false (.vf l) with
      | some (xs, _) => match adec h false c.ps ts with
        | some (a, _) => some ⟨(xs, a), l, false⟩
        | none => none
      | none => none
  | _ => none

def IRc.hd (c : IRc) : HD where
  X := IRX c
  Y := PDen ((false, .sl c.k) :: c.rs)
  dec := c.dec
  model X := c.model X.x
  out h _ X y := (h.set X.l (true, .vec c.T c.k y.1 X.fr) ++ (encMs X.fr c.rs c.ms h.length y.2).2.map fun o => (true, o), resTV (encMs X.fr c.rs c.ms h.length y.2).1)
  touch := some fun h ts => match c.dec h ts with
    | some X => [X.l]
    | none => []
  touches := by
    intro f hf h ts x y hd
    simp only [Option.some.injEq] at hf
    subst hf
    simp only [hd]
    refine ⟨by simp, fun l hl hn => ?_⟩
    have h1 : l ≠ x.l := fun e => hn (by simp [e])
    rw [List.getElem?_append_left (by simp [hl]), List.getElem?_set_ne (Ne.symm h1)]

theorem IRc.Sound.hd {P : Program} {f : FuncId} {c : IRc} (hc : c.Sound P f) : c.hd.Sound P f := by
  refine ⟨hc.1, fun X y hxy C s β a w ts vs h hvs hdec0 => ?_⟩
  have hdec : c.dec s.heap ts = some X := hdec0
  clear hdec0
  obtain ⟨y, z⟩ := y
  obtain ⟨⟨x, ar⟩, l, fr⟩ := X
  have hy1 : c.model (x, ar) = some (y, z) := hxy
  have main : ∃ ts' fl fa, ts = .one (.vf l) :: ts' ∧ hat s.heap l = .vec c.T c.k x fl ∧ adec s.heap false c.ps ts' = some (ar, fa) ∧ (fr = true → fl = true ∧ fa = true) := by
    unfold IRc.dec at hdec
    split at hdec
    rotate_left
    · simp at hdec
    rename_i l0 ts'
    split at hdec
    · rename_i xs o0 hd
      split at hdec
      rotate_left
      · simp at hdec
      rename_i a1 f1 ha
      simp only [Option.some.injEq, IRX.mk.injEq, Prod.mk.injEq] at hdec
      obtain ⟨⟨rfl, rfl⟩, rfl, rfl⟩ := hdec
      rcases decV_some hd with ⟨hbad, _⟩ | ⟨l1, fl, hl1, _, ho, hfl⟩
      · simp at hbad
      simp only [AV.vf.injEq] at hl1
      subst hl1
      exact ⟨ts', fl, _, rfl, ho, ha, fun h => ⟨hfl rfl, h⟩⟩
    · split at hdec
      rotate_left
      · simp at hdec
      rename_i xs o0 hd
      split at hdec
      rotate_left
      · simp at hdec
      rename_i a1 f1 ha
      simp only [Option.some.injEq, IRX.mk.injEq, Prod.mk.injEq] at hdec
      obtain ⟨⟨rfl, rfl⟩, rfl, rfl⟩ := hdec
      rcases decV_some hd with ⟨hbad, _⟩ | ⟨l1, fl, hl1, _, ho, hfl⟩
      · simp at hbad
      simp only [AV.vf.injEq] at hl1
      subst hl1
      exact ⟨ts', fl, f1, rfl, ho, ha, fun h => by simp at h⟩
  obtain ⟨ts', fl, fa, rfl, hvec, har, hfrx⟩ := main
  match vs, hvs with
  | v0 :: vs, hvs =>
  obtain ⟨hv0, hvs⟩ := hvs
  obtain ⟨ff, r, hl, hr, hR⟩ := h.obj hvec (by simp)
  obtain ⟨r', A, cp, hr', rfl, hle, hsl⟩ := hv0
  rw [hr] at hr'; cases hr'
  have hNd : ∀ b, Dec C s β w false fr b → b < w.heap.size ∧ Free s.heap β b := fun b hb => by
    cases fr with
    | true => exact ⟨hb.2.1, hb.2.2⟩
    | false => exact ⟨hb.2.1, hb.2.2⟩
  have hx' : (AObj.vec c.T c.k x false).R w (Dec C s β w false fr) (Dec C s β w false fr) [] r := by
    obtain ⟨p1, p2, p3, p4⟩ := hR
    refine ⟨p1, p2, p3, ?_⟩
    by_cases hreal : r.real = true
    · simp only [hreal, if_true] at p4 ⊢
      obtain ⟨pre, mid, post, hh, hp, hrow, hcap⟩ := p4
      refine ⟨pre, mid, post, hh, hp, rows_weak (fun _ _ => rfl) (fun b hb => ?_) hrow, hcap⟩
      cases fr with
      | true =>
        have := (hfrx rfl).1
        subst this
        exact hb
      | false =>
        cases fl with
        | true => exact Cx.fresh_N hb
        | false => exact hb
    · simp only [hreal] at p4 ⊢
      exact p4
  have hargs : argsR w (Dec C s β w false fr) c.ps ar vs := argsR_mono (fun _ _ => rfl) (fun b hb => hb.weak (fun h => (hfrx h).2)) (adec_sound h hvs har)
  have hin : ∀ b, InD [r] b → b ∈ (AObj.vec c.T c.k x fl).occ r := by
    rintro b ⟨r1, hr1, hreal, rfl⟩
    have hr1 : r1 = r := by simpa using hr1
    subst hr1
    simp [AObj.occ, hreal]
  refine (hc.2 x ar y z hy1 w (Dec C s β w false fr) r A cp vs hle hsl hx' (fun hreal => (h.occ l _ r r.blk hl hr (by simp [AObj.occ, hreal])).1) (fun b hb => ?_) hargs).mono ?_
  · obtain ⟨h1, h2⟩ := hNd b hb
    exact ⟨h1, fun hi => h2 l _ r hl hr (hin b hi)⟩
  rintro e' w' ⟨v, δ', rfl, hk, hR', hap', hδ', us, rfl, hres⟩
  have hks := h.keep.size
  obtain ⟨e1, e2, e3⟩ := argsM_enc fr c.rs c.ms z us δ' s.heap.length hres
  generalize hobj : (encMs fr c.rs c.ms s.heap.length z).2 = objs at e1 e2
  generalize hcel : (encMs fr c.rs c.ms s.heap.length z).1 = comps at e3
  let h' : Heap := s.heap.set l (true, .vec c.T c.k y fr) ++ objs.map fun o => (true, o)
  have hlen0 : (s.heap.set l (true, AObj.vec c.T c.k y fr)).length = s.heap.length := by simp
  have hll : l < s.heap.length := (List.getElem?_eq_some_iff.1 hl).1
  have hget : ∀ (l1 : Nat) (o : Bool × AObj) (r1 : Bl), h'[l1]? = some o → (β ++ δ')[l1]? = some r1 →
      (l1 = l ∧ o = (true, .vec c.T c.k y fr) ∧ r1 = r) ∨ (l1 ≠ l ∧ s.heap[l1]? = some o ∧ β[l1]? = some r1) ∨ (∃ i, l1 = s.heap.length + i ∧ δ'[i]? = some r1 ∧ Handed w' (irN w w' (Dec C s β w false fr) (r :: δ')) fr o.2 r1) := by
    intro l1 o r1 ho hr1
    by_cases h1 : l1 < s.heap.length
    · have ho : (s.heap.set l (true, AObj.vec c.T c.k y fr))[l1]? = some o := by
        have ho : ((s.heap.set l (true, AObj.vec c.T c.k y fr)) ++ _)[l1]? = some o := ho
        rwa [List.getElem?_append_left (by rw [hlen0]; exact h1)] at ho
      rw [List.getElem?_append_left (by rw [h.bsize]; exact h1)] at hr1
      by_cases e : l1 = l
      · subst e
        rw [List.getElem?_set_self h1] at ho
        simp only [Option.some.injEq] at ho
        rw [hr] at hr1
        simp only [Option.some.injEq] at hr1
        exact .inl ⟨rfl, ho.symm, hr1.symm⟩
      · rw [List.getElem?_set_ne (Ne.symm e)] at ho
        exact .inr (.inl ⟨e, ho, hr1⟩)
    · have ho : (objs.map fun o => ((true, o) : Bool × AObj))[l1 - s.heap.length]? = some o := by
        have ho : ((s.heap.set l (true, AObj.vec c.T c.k y fr)) ++ objs.map fun o => ((true, o) : Bool × AObj))[l1]? = some o := ho
        rwa [List.getElem?_append_right (by rw [hlen0]; omega), hlen0] at ho
      rw [List.getElem?_append_right (by rw [h.bsize]; omega), h.bsize] at hr1
      rw [List.getElem?_map] at ho
      obtain ⟨o', ho', rfl⟩ := Option.map_eq_some_iff.1 ho
      exact .inr (.inr ⟨l1 - s.heap.length, by omega, hr1, e2 _ _ _ ho' hr1⟩)
  have hocc0 : ∀ b, b ∈ (AObj.vec c.T c.k y fr).occ r → r.real = true ∧ b = r.blk := fun b hb => by
    simp only [AObj.occ] at hb
    split at hb
    · rename_i hreal; exact ⟨hreal, by simpa using hb⟩
    · simp at hb
  have reach : ∀ b, irN w w' (Dec C s β w false fr) (r :: δ') b → (if fr then C.fresh h' (β ++ δ') w' else C.N h' (β ++ δ') w') b := by
    rintro b ⟨hb, hbD⟩
    have hfree : (w.heap.size ≤ b ∨ Free s.heap β b) → Free h' (β ++ δ') b := by
      intro hor l1 o r1 ho hr1 hbo
      rcases hget l1 o r1 ho hr1 with ⟨rfl, rfl, rfl⟩ | ⟨_, g1, g2⟩ | ⟨i, _, g2, g3⟩
      · obtain ⟨hreal, hb2⟩ := hocc0 b hbo
        exact hbD ⟨r1, by simp, hreal, hb2⟩
      · rcases hor with hge | hfr2
        · have := (h.occ l1 o r1 b g1 g2 hbo).1; omega
        · exact hfr2 l1 o r1 g1 g2 hbo
      · obtain ⟨hreal, hb2⟩ := handed_occ g3 hbo
        exact hbD ⟨r1, by simp [List.mem_of_getElem? g2], hreal, hb2⟩
    cases fr with
    | true =>
      rcases hb with hb | hb
      · exact ⟨hb.1, by have := hb.2.1; have := hk.size; omega, hfree (.inr hb.2.2)⟩
      · exact ⟨by omega, hb.2, hfree (.inl hb.1)⟩
    | false =>
      rcases hb with hb | hb
      · exact ⟨hb.1, by have := hb.2.1; have := hk.size; omega, hfree (.inr hb.2.2)⟩
      · exact ⟨.inr (by omega), hb.2, hfree (.inl hb.1)⟩
  have hvecR : (AObj.vec c.T c.k y fr).R w' (C.N h' (β ++ δ') w') (C.fresh h' (β ++ δ') w') (β ++ δ') r := handed_R (fr := fr) ⟨c.T, c.k, y, rfl, hR'⟩ (fun b hb => reach b hb)
  have hgen := h.gen (hdr := hk.drawn) h' δ' w' (fun l1 => l1 = l) hk.os hk.tape hk.output hk.size (by simp [h', e1])
    (fun l1 o ho hn => ⟨o, by
      show ((s.heap.set l (true, AObj.vec c.T c.k y fr)) ++ _)[l1]? = some o
      rw [List.getElem?_append_left (by rw [hlen0]; exact (List.getElem?_eq_some_iff.1 ho).1), List.getElem?_set_ne (fun e => hn e.symm)]; exact ho, rfl⟩)
    (fun l1 _ ho => by
      have h1 : l1 ≠ l := fun e => by subst e; rw [hl] at ho; simp at ho
      show ((s.heap.set l (true, AObj.vec c.T c.k y fr)) ++ _)[l1]? = _
      rw [List.getElem?_append_left (by rw [hlen0]; exact (List.getElem?_eq_some_iff.1 ho).1), List.getElem?_set_ne (Ne.symm h1)]; exact ho)
    (fun b hb hx => hk.block b hb (fun hF => hx l _ r hl hr rfl (hin b hF)))
    (fun l1 o r1 b ho hr1 hch hbo => by
      rcases hget l1 o r1 ho hr1 with ⟨rfl, rfl, rfl⟩ | ⟨h1, g1, g2⟩ | ⟨i, _, g2, g3⟩
      · obtain ⟨hreal, rfl⟩ := hocc0 b hbo
        have hb' := (h.occ l1 _ r1 r1.blk hl hr (by simp [AObj.occ, hreal])).1
        exact ⟨Nat.lt_of_lt_of_le hb' hk.size, .inr ⟨_, _, r1, hl, hr, rfl, by simp [AObj.occ, hreal]⟩⟩
      · rcases hch with hch | hch
        · exact absurd hch h1
        · have := (List.getElem?_eq_some_iff.1 g1).1; omega
      · obtain ⟨hreal, rfl⟩ := handed_occ g3 hbo
        have := hδ' r1 (List.mem_of_getElem? g2) hreal
        exact ⟨this.1, .inl this.2⟩)
    (fun l1 l2 o1 o2 r1 r2 b ho1 hr1 ho2 hr2 hch1 hch2 hb1 hb2 => by
      have cls : ∀ (l1 : Nat) (o : Bool × AObj) (r1 : Bl), h'[l1]? = some o → (β ++ δ')[l1]? = some r1 → (l1 = l ∨ s.heap.length ≤ l1) → b ∈ o.2.occ r1 → (l1 = l ∧ r.real = true ∧ b = r.blk) ∨ ∃ i, l1 = s.heap.length + i ∧ δ'[i]? = some r1 ∧ r1.real = true ∧ b = r1.blk := by
        intro l1 o r1 ho hr1 hch hbo
        rcases hget l1 o r1 ho hr1 with ⟨rfl, rfl, rfl⟩ | ⟨h1, g1, g2⟩ | ⟨i, hi, g2, g3⟩
        · exact .inl ⟨rfl, hocc0 b hbo⟩
        · rcases hch with hch | hch
          · exact absurd hch h1
          · have := (List.getElem?_eq_some_iff.1 g1).1; omega
        · obtain ⟨hreal, hb⟩ := handed_occ g3 hbo
          exact .inr ⟨i, hi, g2, hreal, hb⟩
      rcases cls l1 o1 r1 ho1 hr1 hch1 hb1 with ⟨rfl, hre, rfl⟩ | ⟨i, rfl, hi, hreal, rfl⟩
      · rcases cls l2 o2 r2 ho2 hr2 hch2 hb2 with ⟨rfl, _⟩ | ⟨j, rfl, hj, hreal', hb⟩
        · rfl
        · have := hap' 0 (j + 1) r r2 rfl (by simpa using hj) hre hreal' hb
          omega
      · rcases cls l2 o2 r2 ho2 hr2 hch2 hb2 with ⟨rfl, hre, hb⟩ | ⟨j, rfl, hj, hreal', hb⟩
        · have := hap' 0 (i + 1) r r1 rfl (by simpa using hi) hre hreal hb.symm
          omega
        · have := hap' (i + 1) (j + 1) r1 r2 (by simpa using hi) (by simpa using hj) hreal hreal' hb
          have : i = j := by omega
          rw [this])
    (fun l1 o r1 ho hr1 hch _ _ _ _ => by
      rcases hget l1 o r1 ho hr1 with ⟨rfl, rfl, rfl⟩ | ⟨h1, g1, g2⟩ | ⟨i, hi, g2, g3⟩
      · exact hvecR
      · rcases hch with hch | hch
        · exact absurd hch h1
        · have := (List.getElem?_eq_some_iff.1 g1).1; omega
      · exact handed_R g3 (fun b hb => reach b hb))
  obtain ⟨h2, mv⟩ := hgen
  refine ⟨_, β ++ δ', rfl, ?_, ?_, ⟨δ', rfl⟩, ?_, fun l1 o hl1 ho => ?_, fun l1 ho => ?_⟩
  · show Rel C { s with heap := s.heap.set l (true, .vec c.T c.k y fr) ++ (encMs fr c.rs c.ms s.heap.length z).2.map fun o => (true, o) } (β ++ δ') a w'
    rw [hobj]; exact h2
  · show TV.R w' (C.N (s.heap.set l (true, .vec c.T c.k y fr) ++ (encMs fr c.rs c.ms s.heap.length z).2.map fun o => (true, o)) (β ++ δ') w') (C.fresh (s.heap.set l (true, .vec c.T c.k y fr) ++ (encMs fr c.rs c.ms s.heap.length z).2.map fun o => (true, o)) (β ++ δ') w') (β ++ δ') (resTV (encMs fr c.rs c.ms s.heap.length z).1) _
    rw [hobj, hcel]
    refine resTV_R (e3 (C.N h' (β ++ δ') w') (C.fresh h' (β ++ δ') w') (β ++ δ') (fun b hb => ?_) fun i r1 hi => by rw [← h.bsize, List.getElem?_append_right (by omega)]; simpa using hi)
    exact reach b hb
  · show _ ≤ ((s.heap.set l _) ++ _).length
    simp
  · have ho : ((s.heap.set l (true, .vec c.T c.k y fr)) ++ (encMs fr c.rs c.ms s.heap.length z).2.map fun o => ((true, o) : Bool × AObj))[l1]? = some (false, o) := ho
    rw [List.getElem?_append_left (by simpa using hl1)] at ho
    by_cases e : l1 = l
    · subst e
      rw [List.getElem?_set_self hl1] at ho
      simp at ho
    · rwa [List.getElem?_set_ne (Ne.symm e)] at ho
  · show ((s.heap.set l (true, .vec c.T c.k y fr)) ++ (encMs fr c.rs c.ms s.heap.length z).2.map fun o => ((true, o) : Bool × AObj))[l1]? = some (true, .mark)
    have h1 : l1 ≠ l := fun e => by subst e; rw [hl] at ho; simp at ho
    rw [List.getElem?_append_left (by simpa using (List.getElem?_eq_some_iff.1 ho).1), List.getElem?_set_ne (Ne.symm h1)]; exact ho
end Go.Proofs.AM
end

section
/- Functions that only read what they are handed, through interfaces too. -/
namespace Go.Proofs.AM
open Go Go.RowKit

def wrapTVs : List (Option TypeId) → List TV → List TV
  | some t :: ts, .one a :: l => .one (.ifc t a) :: wrapTVs ts l
  | some _ :: ts, _ :: l => .one .junk :: wrapTVs ts l
  | none :: ts, x :: l => x :: wrapTVs ts l
  | [], l => l
  | _ :: _, [] => []

def wrapVs : List (Option TypeId) → List Value → List Value
  | some t :: ts, v :: l => .iface t v :: wrapVs ts l
  | none :: ts, v :: l => v :: wrapVs ts l
  | [], l => l
  | _ :: _, [] => []

def unwrap : List (Option TypeId) → List TV → Option (List TV)
  | some t :: ts, .one (.ifc t' a) :: l => if t' = t then (unwrap ts l).map fun r => .one a :: r else none
  | none :: ts, x :: l => (unwrap ts l).map fun r => x :: r
  | [], l => some l
  | _, _ => none

structure CIc where
  ts : List (Option TypeId)
  ps : List (Bool × K)
  rs : List (Bool × K)
  model : PDen ps → Option (PDen rs)

def CIc.Sound (P : Program) (f : FuncId) (c : CIc) : Prop :=
  (∀ args w, (callFunc f args).run P w = .ok (.enter f args) w) ∧
  ∀ (x : PDen c.ps) (y : PDen c.rs), c.model x = some y → ∀ (w : World) (N : Nat → Prop) (args : List Value), (∀ b, N b → b < w.heap.size) → argsR w N c.ps x args →
    Calls P f (wrapVs c.ts args).toArray w fun e w' => ∃ v, e = .returned v ∧ Grew w w' ∧ resR w' (fun b => w.heap.size ≤ b ∧ b < w'.heap.size) c.rs y v

theorem wrap_R {w : World} {N Nf : Nat → Prop} {β : List Bl} : ∀ {ts : List (Option TypeId)} {l : List TV} {vs : List Value}, All2 (TV.R w N Nf β) l vs → All2 (TV.R w N Nf β) (wrapTVs ts l) (wrapVs ts vs)
  | [], [], [], _ => trivial
  | [], _ :: _, _ :: _, h => h
  | none :: _, [], [], _ => trivial
  | some _ :: _, [], [], _ => trivial
  | none :: ts, x :: l, v :: vs, h => ⟨h.1, wrap_R (ts := ts) h.2⟩
  | some t :: ts, x :: l, v :: vs, h => by
    cases x with
    | one a => exact ⟨⟨v, rfl, h.1⟩, wrap_R (ts := ts) h.2⟩
    | agg cs => exact ⟨trivial, wrap_R (ts := ts) h.2⟩
    | tup cs => exact ⟨trivial, wrap_R (ts := ts) h.2⟩
  | [], [], _ :: _, h => h.elim
  | [], _ :: _, [], h => h.elim
  | none :: _, [], _ :: _, h => h.elim
  | none :: _, _ :: _, [], h => h.elim
  | some _ :: _, [], _ :: _, h => h.elim
  | some _ :: _, _ :: _, [], h => h.elim

theorem unwrap_R {w : World} {N Nf : Nat → Prop} {β : List Bl} : ∀ {ts : List (Option TypeId)} {l l2 : List TV} {vs : List Value}, All2 (TV.R w N Nf β) l vs → unwrap ts l = some l2 → ∃ us, vs = wrapVs ts us ∧ All2 (TV.R w N Nf β) l2 us
  | [], l, l2, vs, h, e => by
    simp only [unwrap, Option.some.injEq] at e
    subst e
    exact ⟨vs, by cases vs <;> rfl, h⟩
  | none :: ts, [], _, _, _, e => by simp [unwrap] at e
  | some _ :: ts, [], _, _, _, e => by simp [unwrap] at e
  | none :: ts, x :: l, l2, v :: vs, h, e => by
    simp only [unwrap, Option.map_eq_some_iff] at e
    obtain ⟨r, e1, rfl⟩ := e
    obtain ⟨us, rfl, h2⟩ := unwrap_R h.2 e1
    exact ⟨v :: us, rfl, h.1, h2⟩
  | some t :: ts, x :: l, l2, v :: vs, h, e => by
    cases x with
    | one a => cases a with
      | ifc t' a =>
        simp only [unwrap] at e
        split at e
        rotate_left
        · simp at e
        rename_i ht
        subst ht
        simp only [Option.map_eq_some_iff] at e
        obtain ⟨r, e1, rfl⟩ := e
        obtain ⟨us, rfl, h2⟩ := unwrap_R h.2 e1
        obtain ⟨u, hu, hR⟩ := h.1
        exact ⟨u :: us, by rw [hu]; rfl, hR, h2⟩
      | _ => simp [unwrap] at e
    | _ => simp [unwrap] at e
  | none :: _, _ :: _, _, [], h, _ => h.elim
  | some _ :: _, _ :: _, _, [], h, _ => h.elim

theorem unwrap_len : ∀ (ts : List (Option TypeId)) (vs : List Value), (wrapVs ts vs).length = vs.length
  | [], vs => by cases vs <;> rfl
  | none :: _, [] => rfl
  | some _ :: _, [] => rfl
  | none :: ts, v :: vs => by simp [wrapVs, unwrap_len ts vs]
  | some _ :: ts, v :: vs => by simp [wrapVs, unwrap_len ts vs]

theorem wrapTV_len : ∀ (ts : List (Option TypeId)) (vs : List TV), (wrapTVs ts vs).length = vs.length
  | [], vs => by cases vs <;> rfl
  | none :: _, [] => rfl
  | some _ :: _, [] => rfl
  | none :: ts, v :: vs => by simp [wrapTVs, wrapTV_len ts vs]
  | some _ :: ts, .one a :: vs => by simp [wrapTVs, wrapTV_len ts vs]
  | some _ :: ts, .agg a :: vs => by simp [wrapTVs, wrapTV_len ts vs]
  | some _ :: ts, .tup a :: vs => by simp [wrapTVs, wrapTV_len ts vs]

noncomputable def afunCI (P : Program) (Γ : Env) (an : Ann) (fn : Func) (ts : List (Option TypeId)) (ps rs : List (Bool × K)) (x : PDen ps) : Option (PDen rs) :=
  match fn.body with
  | none => none
  | some c => arun P Γ an c (PDen rs) none 0 { tmps := wrapTVs ts (aargs ps x) ++ List.replicate (fn.ntmps - ps.length) undefTV, heap := [], marks := [] }
      { norm := afin P fn rs false, exit := fun _ _ => none, ret := afin P fn rs false }

section
variable {P : Program} {Γ : Env}

theorem afunCI_sound (hΓ : Γ.Sound P) (hyl : Γ.yl = []) (hm : P.follows .mixedOrders = true) {an : Ann} {f : FuncId} {fn : Func} (hf : P.funcs[f]? = some fn) (hn : (fn.name == "runtime.NumGoroutine") = false) {ts : List (Option TypeId)} {ps rs : List (Bool × K)} {model : PDen ps → Option (PDen rs)}
    {c : Code} (hbody : fn.body = some c) (hmod : ∀ x y, model x = some y → afunCI P Γ an fn ts ps rs x = some y) : (CIc.mk ts ps rs model).Sound P f := by
  refine ⟨fun args w => ?_, fun x y hxy w N args0 hN hargs => ?_⟩
  · have h1 : fn.name ≠ "runtime.NumGoroutine" := by simpa using hn
    simp [callFunc, hf, h1, hbody, mark]
  · have e := hmod x y hxy
    simp only [afunCI, hbody] at e
    have hA0 := aargs_R (Nf := fun b => w.heap.size ≤ b ∧ b < w.heap.size ∧ Free [] [] b) hargs
    have hA := wrap_R (ts := ts) hA0
    have hlen0 : args0.length = ps.length := by rw [← All2.len' hA0, aargs_len]
    obtain ⟨args, hargs'⟩ : ∃ args, args = wrapVs ts args0 := ⟨_, rfl⟩
    have hlen : args.length = ps.length := by rw [hargs', unwrap_len, hlen0]
    have hwl : (wrapTVs ts (aargs ps x)).length = ps.length := by rw [wrapTV_len, aargs_len]
    show Calls P f (wrapVs ts args0).toArray w _
    rw [← hargs'] at hA ⊢
    refine callsIn_wide.1 (callsIn_of_wp_marks (n := 5) hf hbody trivial ?_)
    have hN' : ∀ b, N b → Cx.N ⟨w, N, fun _ => False, []⟩ [] [] w b := fun b hb => ⟨.inl hb, hN b hb, fun l o r h => by simp at h⟩
    have hrel : Rel ⟨w, N, fun _ => False, []⟩ { tmps := wrapTVs ts (aargs ps x) ++ List.replicate (fn.ntmps - ps.length) undefTV, heap := [], marks := [] } []
        { tmps := args.toArray ++ Array.replicate (fn.ntmps - args.toArray.size) undef, defers := [] } w := by
      refine { defers := ⟨[], rfl, trivial⟩, tsize := ?_, tm := ?_, bsize := rfl, ob := fun l o r h => by simp at h, occ := fun l o r b h => by simp at h, apart := fun l l' o o' r r' b h => by simp at h, keep := Kept.refl _ _, frs := fun f hf => by simp at hf }
      · simp [hwl, hlen]
      · intro i t hi
        by_cases hl : i < ps.length
        · have hi : (wrapTVs ts (aargs ps x) ++ List.replicate (fn.ntmps - ps.length) undefTV)[i]? = some t := hi
          rw [List.getElem?_append_left (by rw [hwl]; exact hl)] at hi
          obtain ⟨v, hv, hR⟩ := All2.get2 hA hi
          have : (args.toArray ++ Array.replicate (fn.ntmps - args.toArray.size) undef).getD i undef = v := by
            rw [Array.getD_eq_getD_getElem?, Array.getElem?_append_left (by simpa [hlen] using hl)]
            simp [hv]
          show t.R w _ _ _ _
          rw [this]
          exact TV.R_mono (AV.R_mono (fun _ _ => rfl) hN' (fun b hb => by have h1 : w.heap.size ≤ b := hb.1; have h2 : b < w.heap.size := hb.2.1; omega) (fun b hb => hb) (fun _ _ h => h)) _ _ hR
        · have hi : (wrapTVs ts (aargs ps x) ++ List.replicate (fn.ntmps - ps.length) undefTV)[i]? = some t := hi
          rw [List.getElem?_append_right (by rw [hwl]; omega), hwl, List.getElem?_replicate] at hi
          split at hi
          · cases hi
            have : (args.toArray ++ Array.replicate (fn.ntmps - args.toArray.size) undef).getD i undef = undef := by
              rw [Array.getD_eq_getD_getElem?, Array.getElem?_append_right (by simpa [hlen] using hl)]
              simp [Array.getElem?_replicate]
              split <;> rfl
            show undefTV.R w _ _ _ _
            rw [this]
            exact undefTV_R
          · simp at hi
    have fin : ∀ (s' : AS) (β' : List Bl) (a' : Act) (w' : World), afin P fn rs false s' = some y → Rel ⟨w, N, fun _ => False, []⟩ s' β' a' w' →
        LeavesInM Fence.wide 5 P fn a'.tmps (fun e w' => ∃ v, e = .returned v ∧ Grew w w' ∧ resR w' (fun b => w.heap.size ≤ b ∧ b < w'.heap.size) rs y v) a'.defers .returning w' := by
      intro s' β' a' w' hfin h
      unfold afin at hfin
      split at hfin
      rotate_left
      · simp at hfin
      rename_i hnd
      refine leave s'.marks s' a' w' h rfl hnd (fun l _ f hf => by simp at hf) fun a2 w2 h2 ht => ?_
      split at hfin
      rotate_left
      · simp at hfin
      rename_i tss hts
      split at hfin
      rotate_left
      · simp at hfin
      rename_i y' f hd
      split at hfin
      rotate_left
      · simp at hfin
      rename_i hsf
      simp only [Option.some.injEq] at hfin
      subst hfin
      obtain ⟨vs, e1, e2⟩ := aresults_sound h2 hts
      rw [ht] at e1
      refine ⟨_, results_run e1, _, rfl, ⟨h2.keep.os, h2.keep.tape, h2.keep.output, h2.keep.size, fun b hb => h2.keep.block b hb id, h2.keep.drawn⟩, ?_⟩
      refine resR_of (argsR_mono (fun _ _ => rfl) (fun b hb => ?_) (adec_sound h2 e2 hd))
      have : f = true := by simpa using hsf
      subst this
      have hb : AnyF _ w2 b := hb
      exact ⟨hb.1.resolve_right id, hb.2⟩
    refine wpIn_mono (arun_sound hΓ hm c _ none 0 _ _ y e Fence.wide 5 _ [] _ w (.inl rfl) rfl (by rw [hyl]; exact YOK.nil _ _ _) hrel) fun ex a' w' ⟨s', β', h1, h2, _⟩ => ?_
    cases ex with
    | normal => exact fin s' β' a' w' h1 h2
    | ret => exact fin s' β' a' w' h1 h2
    | exit i => simp [Kt.at] at h1
    | goto _ => simp [Kt.at] at h1
    | panic _ => simp [Kt.at] at h1
    | outgrown => simp [Kt.at] at h1

theorem afunCI_sound' (hΓ : Γ.Sound P) (hyl : Γ.yl = []) (hm : P.follows .mixedOrders = true) {an : Ann} {f : FuncId} {fn : Func} (hf : P.funcs[f]? = some fn) (hn : (fn.name == "runtime.NumGoroutine") = false) (hbody : fn.body.isSome = true) {ts : List (Option TypeId)} {ps rs : List (Bool × K)}
    {model : PDen ps → Option (PDen rs)} (hmod : (fun x => afunCI P Γ an fn ts ps rs x) = model) : (CIc.mk ts ps rs model).Sound P f := by
  obtain ⟨c, hc⟩ := Option.isSome_iff_exists.1 hbody
  exact afunCI_sound hΓ hyl hm hf hn hc (fun x y h => by rw [← hmod] at h; exact h)
end

/-! ### the caller's side -/
def CIc.dec (c : CIc) (h : Heap) (ts : List TV) : Option (PDen c.ps) := match unwrap c.ts ts with
  | some l => match adec h true c.ps l with
    | some (x, _) => some x
    | none => none
  | none => none

def CIc.hd (c : CIc) : HD where
  X := PDen c.ps
  Y := PDen c.rs
  dec := c.dec
  model := c.model
  out h _ _ y := (h, resTV (acomps true c.rs y))
  push := true
  pushes := fun _ _ _ _ _ => ⟨[], by simp⟩
  two := fun _ => ⟨fun h h' ts x hs e => by
    unfold CIc.dec at e ⊢
    split at e
    · split at e
      · rename_i hd
        rw [adec_two hs _ _ _ hd]
        exact e
      · simp at e
    · simp at e, fun h h' ts x y hl => ⟨[], resTV (acomps true c.rs y), by simp, by simp⟩⟩

theorem CIc.Sound.hd {P : Program} {f : FuncId} {c : CIc} (hc : c.Sound P f) : c.hd.Sound P f := by
  refine ⟨hc.1, fun (x : PDen c.ps) (y : PDen c.rs) hxy C s β a w ts vs h hvs hdec0 => ?_⟩
  have hdec : c.dec s.heap ts = some x := hdec0
  clear hdec0
  unfold CIc.dec at hdec
  split at hdec
  rotate_left
  · simp at hdec
  rename_i l hl
  split at hdec
  rotate_left
  · simp at hdec
  rename_i x' f' hd
  simp only [Option.some.injEq] at hdec
  subst hdec
  obtain ⟨us, rfl, hu⟩ := unwrap_R hvs hl
  have hargs := adec_sound h hu hd
  refine (hc.2 x' y hxy w _ us (fun b hb => ?_) hargs).mono ?_
  · revert hb; cases f' <;> intro hb <;> exact hb.2
  rintro e' w' ⟨v, rfl, hg, hr⟩
  obtain ⟨h2, mv⟩ := h.grew hg
  refine ⟨v, β, rfl, h2, ?_, ⟨[], by simp⟩, Nat.le_refl _, fun _ _ _ h => h, fun _ h => h⟩
  refine ioRes_R (fr := true) ?_
  have mono : ∀ {M M' : Nat → Prop}, (∀ b, M b → M' b) → resR w' M c.rs y v → resR w' M' c.rs y v := by
    intro M M' hM hr
    unfold resR at hr ⊢
    split at hr
    · exact valR_mono (fun _ _ => rfl) hM hr
    · obtain ⟨us, e1, h1⟩ := hr
      exact ⟨us, e1, argsR_mono (fun _ _ => rfl) hM h1⟩
  refine mono (fun b hb => ?_) hr
  have hk := h.keep.size
  exact ⟨by omega, hb.2, fun l o rr h1 h2 hx' => by
    have := (h.occ l o rr b h1 h2 hx').1; omega⟩
end Go.Proofs.AM
end

section
/- A row's arguments, as data. -/
namespace Go.Proofs.AM
open Go Go.RowKit

/-- What holds of every datum that comes in: numbers fit, lists and texts are no longer than may be. -/
def K.wf : (k : K) → k.den → Prop
  | .int k, n => (Lit.int k n).wf = true
  | .str, s => ByteArray.size s ≤ maxLen
  | .pair a b, x => a.wf x.1 ∧ b.wf x.2
  | .sl k, xs => List.length xs ≤ maxLen ∧ ∀ x ∈ (show List k.den from xs), k.wf x
  | .rp k, x => k.wf x
  | _, _ => True

def PWf : (ps : List (Bool × K)) → PDen ps → Prop
  | [], _ => True
  | p :: ps, x => p.2.wf x.1 ∧ PWf ps x.2

/-! ### cells lie as kinds say -/
def layF (P : Program) (q : TypeId → Option K) (g : TypeId → Bool) (total : Nat) : List Field → Nat → Bool
  | [], off => off == total
  | x :: r, off => x.offset == off && (match q x.type with
    | some k => P.cellsOf x.type == k.size
    | none => false) && g x.type && layF P q g total r (off + P.cellsOf x.type)

def lay (P : Program) : Nat → TypeId → Bool
  | 0, _ => false
  | n + 1, t => match P.underlying t with
    | some (.int _) => true
    | some .bool => true
    | some .string => true
    | some (.slice e) => (match kindOf P n e with
      | some k => P.cellsOf e == k.size && decide (0 < k.size)
      | none => false) && lay P n e
    | some (.struct fs) => layF P (kindOf P n) (lay P n) (P.cellsOf t) fs.toList 0
    | _ => false

section
variable {H : Type} {enc : TypeId × Value → H} {P : Program} {w : World} {base : Nat} {spare : Nat → Bool} {held : Bool}

theorem fields_open {q : TypeId → Option K} {g : TypeId → Bool} {total : Nat} {cs : List Value} (htot : cs.length = total) {N : Nat → Prop}
    (ih : ∀ t k cells, q t = some k → g t = true → (∃ n x, DataW.trod enc P w base spare held n t cells = some x) → ∃ y, k.rd w N y cells ∧ k.wf y) :
    ∀ (l : List Field) (off : Nat) (k : K), kindFields q l = some k → layF P q g total l off = true → off ≤ total →
      (∀ f ∈ l, ∃ n x, DataW.trod enc P w base spare held n f.type ((cs.drop f.offset).take (P.cellsOf f.type)) = some x) → ∃ y, k.rd w N y (cs.drop off) ∧ k.wf y
  | [], off, k, hk, hl, _, _ => by
    simp only [kindFields, Option.some.injEq] at hk
    subst hk
    simp only [layF, beq_iff_eq] at hl
    exact ⟨(), by show cs.drop off = []; rw [List.drop_eq_nil_iff]; omega, trivial⟩
  | [x], off, k, hk, hl, ho, hx => by
    simp only [kindFields] at hk
    simp only [layF, hk, Bool.and_eq_true, beq_iff_eq] at hl
    obtain ⟨⟨⟨h1, h2⟩, h3⟩, h4⟩ := hl
    obtain ⟨n, y, hy⟩ := hx x (by simp)
    have : (cs.drop x.offset).take (P.cellsOf x.type) = cs.drop off := by
      rw [h1, List.take_of_length_le]; simp; omega
    rw [this] at hy
    exact ih x.type k _ hk h3 ⟨n, y, hy⟩
  | x :: y :: r, off, k, hk, hl, ho, hx => by
    unfold kindFields at hk
    split at hk
    rotate_left
    · simp at hk
    rename_i a b ha hb
    simp only [Option.some.injEq] at hk
    subst hk
    unfold layF at hl
    simp only [ha, Bool.and_eq_true, beq_iff_eq] at hl
    obtain ⟨⟨⟨h1, h2⟩, h3⟩, h4⟩ := hl
    obtain ⟨n, z, hz⟩ := hx x (by simp)
    obtain ⟨y1, g1, g2⟩ := ih x.type a _ ha h3 ⟨n, z, hz⟩
    have hlen := K.rd_len w N a y1 _ g1
    have hle : off + P.cellsOf x.type ≤ total := by
      rw [List.length_take, List.length_drop, h1, ← h2] at hlen
      omega
    obtain ⟨y2, g3, g4⟩ := fields_open htot ih (y :: r) (off + P.cellsOf x.type) b hb h4 hle (fun f hf => hx f (by simp [hf]))
    refine ⟨(y1, y2), ⟨_, _, ?_, g1, g3⟩, g2, g4⟩
    rw [h1, ← List.drop_drop, List.take_append_drop]

theorem cells_at {a : Addr} {n : Nat} {cells : List Value} (h : w.cells? base a n = some cells) : cells.length = n ∧ ∀ i v, cells[i]? = some v → w.cell? (a.add i) = some v := by
  unfold World.cells? at h
  split at h
  · have hl := mapM_some_length h
    refine ⟨by simpa using hl, fun i v hv => ?_⟩
    have hi := (List.getElem?_eq_some_iff.1 hv).1
    have := mapM_some_get h i i (by rw [List.getElem?_range (by simpa [hl] using hi)])
    rw [this]; exact hv
  · simp at h

theorem trod_open : ∀ (n : Nat) (t : TypeId) (k : K), kindOf P n t = some k → lay P n t = true → ∀ (fuel : Nat) (cs : List Value) (x : DataW H × List MemPlace), DataW.trod enc P w base spare held fuel t cs = some x →
    ∃ y, k.rd w (fun b => b < w.heap.size) y cs ∧ k.wf y := by
  intro n
  induction n with
  | zero => intro t k hk; simp [kindOf] at hk
  | succ n ih =>
    intro t k hk hl fuel cs x h
    unfold kindOf at hk
    unfold lay at hl
    cases hu : P.underlying t with
    | none => simp [hu] at hk
    | some d =>
      simp only [hu] at hk hl
      cases d with
      | int q =>
        simp only [Option.some.injEq] at hk; subst hk
        obtain ⟨m, rfl, _, hw⟩ := DataW.trod_int hu h
        exact ⟨m, rfl, hw⟩
      | bool =>
        simp only [Option.some.injEq] at hk; subst hk
        obtain ⟨b, rfl, _⟩ := DataW.trod_bool hu h
        exact ⟨b, rfl, trivial⟩
      | string =>
        simp only [Option.some.injEq] at hk; subst hk
        obtain ⟨s, rfl, _, hs⟩ := DataW.trod_string hu h
        exact ⟨s, rfl, hs⟩
      | slice e =>
        dsimp only at hk hl
        split at hk
        rotate_left
        · simp at hk
        rename_i q hq
        simp only [Option.some.injEq] at hk; subst hk
        simp only [hq, Bool.and_eq_true, beq_iff_eq, decide_eq_true_eq] at hl
        obtain ⟨⟨hsz, hpos⟩, hle⟩ := hl
        rcases DataW.trod_slice hu h with ⟨rfl, _⟩ | ⟨a, len, cap, elems, rest, m, _, rfl, _, hb, hlc, hm, hlen, hel, _, _⟩
        · exact ⟨[], ⟨none, 0, rfl, Nat.le_refl _, .inl rfl⟩, Nat.zero_le _, by simp⟩
        · have each : ∀ i, i < len → ∃ cells y, w.cells? base (a.add (i * P.cellsOf e)) (P.cellsOf e) = some cells ∧ q.rd w (fun b => b < w.heap.size) y cells ∧ q.wf y := by
            intro i hi
            have hi' := hel i hi
            obtain ⟨z, hz⟩ : ∃ z, elems[i]? = some z := ⟨_, List.getElem?_eq_getElem (by omega)⟩
            rw [hz, Option.bind_eq_some_iff] at hi'
            obtain ⟨cells, h1, h2⟩ := hi'
            obtain ⟨y, h3, h4⟩ := ih e q hq hle m cells z h2
            exact ⟨cells, y, h1, h3, h4⟩
          have build : ∀ j, j ≤ len → ∃ (ys : List q.den) (es : List Value), ys.length = j ∧ es.length = j * P.cellsOf e ∧ rows (q.rd w (fun b => b < w.heap.size)) ys es ∧ (∀ y ∈ ys, q.wf y) ∧ ∀ i v, es[i]? = some v → w.cell? (a.add i) = some v := by
            intro j
            induction j with
            | zero => exact fun _ => ⟨[], [], rfl, by simp, rfl, by simp, by simp⟩
            | succ j ihj =>
              intro hj
              obtain ⟨ys, es, h1, h2, h3, h4, h5⟩ := ihj (by omega)
              obtain ⟨cells, y, g1, g2, g3⟩ := each j (by omega)
              obtain ⟨g4, g5⟩ := cells_at g1
              refine ⟨ys ++ [y], es ++ cells, by simp [h1], by rw [List.length_append, h2, g4, Nat.add_mul, Nat.one_mul], h3.app ⟨cells, [], by simp, g2, rfl⟩, ?_, fun i v hv => ?_⟩
              · intro z hz
                rcases List.mem_append.1 hz with hz | hz
                · exact h4 z hz
                · simp at hz; subst hz; exact g3
              · by_cases hi : i < es.length
                · rw [List.getElem?_append_left hi] at hv; exact h5 i v hv
                · rw [List.getElem?_append_right (by omega)] at hv
                  have := g5 _ v hv
                  rw [h2] at this
                  have hi : j * P.cellsOf e ≤ i := by omega
                  have e2 : (a.add (j * P.cellsOf e)).add (i - j * P.cellsOf e) = a.add i ∨ j * P.cellsOf e = i := by
                    by_cases hh : i = j * P.cellsOf e
                    · exact .inr hh.symm
                    · left
                      unfold Addr.add
                      have hd : i - j * P.cellsOf e ≠ 0 := by omega
                      have hi0 : i ≠ 0 := by omega
                      rw [if_neg hd, if_neg hi0]
                      split
                      · rename_i hz; rw [hz] at hi ⊢; simp
                      · simp only [Addr.mk.injEq, true_and, and_true]; omega
                  rcases e2 with e2 | e2
                  · rw [← e2]; exact this
                  · rw [← e2, Nat.sub_self] at this
                    rw [← e2]
                    have e3 : ∀ b : Addr, b.add 0 = b := fun b => by simp [Addr.add]
                    rw [e3] at this; exact this
          obtain ⟨ys, es, h1, h2, h3, h4, h5⟩ := build len (Nat.le_refl _)
          refine ⟨ys, ⟨some a, cap, by show [Value.slice (some a) len cap] = [Value.slice (some a) ys.length cap]; rw [h1], by show ys.length ≤ cap; rw [h1]; exact hlc, ?_⟩, by show List.length ys ≤ maxLen; omega, h4⟩
          by_cases h0 : ys.length = 0
          · exact .inl h0
          · right
            have hne : 0 < es.length := by rw [h2, hsz]; exact Nat.mul_pos (by omega) hpos
            obtain ⟨v, hv⟩ : ∃ v, es[0]? = some v := ⟨_, List.getElem?_eq_getElem hne⟩
            have hc := h5 0 v hv
            have ha0 : a.add 0 = a := by simp [Addr.add]
            rw [ha0] at hc
            have hsp : a.spot = none ∧ a.block < w.heap.size := by
              unfold World.cell? at hc
              split at hc
              · rename_i hb2
                split at hc
                · simp at hc
                · rename_i hs
                  exact ⟨by simpa using hs, (Array.getElem?_eq_some_iff.1 hb2).1⟩
              · simp at hc
            obtain ⟨b, off, sp⟩ := a
            obtain rfl : sp = none := hsp.1
            refine ⟨b, off, es, rfl, hsp.2, fun i v hv => ?_, h3⟩
            have := h5 i v hv
            unfold Addr.add at this
            split at this
            · rename_i hi; subst hi; exact this
            · exact this
      | struct fs =>
        dsimp only at hk hl
        obtain ⟨xs, m, _, _, hlen, hxl, hx⟩ := DataW.trod_struct hu h
        have ihf : ∀ t k cells, kindOf P n t = some k → lay P n t = true → (∃ n x, DataW.trod enc P w base spare held n t cells = some x) → ∃ y, k.rd w (fun b => b < w.heap.size) y cells ∧ k.wf y :=
          fun t k cells h1 h2 ⟨n', x', h3⟩ => ih t k h1 h2 n' cells x' h3
        have hf : ∀ f ∈ fs.toList, ∃ n x, DataW.trod enc P w base spare held n f.type ((cs.drop f.offset).take (P.cellsOf f.type)) = some x := by
          intro f hf
          obtain ⟨i, hi⟩ := List.mem_iff_getElem?.1 hf
          have hi' : fs[i]? = some f := by simpa using hi
          have := hx i f hi'
          obtain ⟨z, hz⟩ : ∃ z, xs[i]? = some z := ⟨_, List.getElem?_eq_getElem (by rw [hxl]; exact (Array.getElem?_eq_some_iff.1 hi').1)⟩
          exact ⟨m, z, this.trans hz⟩
        split at hk
        · rename_i x1 hfs
          split at hk
          rotate_left
          · simp at hk
          rename_i q hq
          simp only [Option.some.injEq] at hk; subst hk
          rw [hfs] at hl hf
          obtain ⟨y, g1, g2⟩ := fields_open hlen ihf [x1] 0 q (by simp [kindFields, hq]) hl (Nat.zero_le _) hf
          exact ⟨(y, ()), ⟨cs, [], by simp, by simpa using g1, rfl⟩, g2, trivial⟩
        · obtain ⟨y, g1, g2⟩ := fields_open hlen ihf fs.toList 0 k hk hl (Nat.zero_le _) hf
          exact ⟨y, by simpa using g1, g2⟩
      | _ => simp at hk
end

/-! ### arguments -/
def psOk (P : Program) : List TypeId → List (Bool × K) → Bool
  | [], [] => true
  | t :: ts, p :: ps => decide (kindOf P 30 t = some p.2) && (isAggT P t == p.1) && lay P 30 t && psOk P ts ps
  | _, _ => false

theorem val_open {H : Type} {enc : TypeId × Value → H} {P : Program} {w w0 : World} {base base' : Nat} {spare : Nat → Bool} {held : Bool} {t : TypeId} {v : Value} {d : DataW H} {q : List MemPlace} {p : Bool × K} (hk : kindOf P 30 t = some p.2) (hg : isAggT P t = p.1) (hl : lay P 30 t = true)
    (hok : Value.okWide P w0 .any base' t v) (h : DataW.Trod enc P w base spare held t v d q) : ∃ y, valR w (fun b => b < w.heap.size) p y v ∧ p.2.wf y := by
  obtain ⟨fuel, hf⟩ := h
  obtain ⟨y, h1, h2⟩ := trod_open 30 t p.2 hk hl fuel _ _ hf
  refine ⟨y, ?_, h2⟩
  obtain ⟨pa, pk⟩ := p
  cases pa with
  | true =>
    have : ∃ cs, v = .agg cs := by
      unfold isAggT at hg
      unfold Value.okWide at hok
      split at hg
      · rename_i hu; rw [hu] at hok; obtain ⟨cs, e, _⟩ := hok; exact ⟨cs, e⟩
      · rename_i hu; rw [hu] at hok; obtain ⟨cs, e, _⟩ := hok; exact ⟨cs, e⟩
      · simp at hg
    obtain ⟨cs, rfl⟩ := this
    exact ⟨cs.toList, by simp, by simpa [Value.cells] using h1⟩
  | false =>
    have : v.cells = #[v] := by
      unfold kindOf at hk
      cases hu : P.underlying t with
      | none => simp [hu] at hk
      | some dd =>
        simp only [hu] at hk
        cases dd with
        | int q => obtain ⟨m, rfl⟩ := WideShapes.okWide_int hu hok; rfl
        | bool => obtain ⟨m, rfl⟩ := WideShapes.okWide_bool hu hok; rfl
        | string => obtain ⟨m, rfl⟩ := WideShapes.okWide_string hu hok; rfl
        | slice e => obtain ⟨a, b, c, rfl⟩ := WideShapes.okWide_slice hu hok; rfl
        | struct fs => simp [isAggT, hu] at hg
        | _ => simp at hk
    rw [this] at h1
    exact h1

theorem args_open {H : Type} {enc : TypeId × Value → H} {P : Program} {w w0 : World} {base base' : Nat} {spare : Nat → Bool} {held : Bool} : ∀ {ts : List TypeId} {ps : List (Bool × K)} {vs : List Value} {ds : List (DataW H)} {q : List MemPlace}, psOk P ts ps = true →
    (∀ (j : Nat) t v, ts[j]? = some t → vs[j]? = some v → Value.okWide P w0 .any base' t v) → DataW.TrodAll enc P w base spare held ts vs ds q → ∃ x, argsR w (fun b => b < w.heap.size) ps x vs ∧ PWf ps x
  | [], [], vs, ds, q, _, _, h => by
    obtain ⟨rfl, _, _⟩ := ChangeShapes.trodAll_nil h
    exact ⟨(), rfl, trivial⟩
  | t :: ts, p :: ps, vs, ds, q, hp, hv, h => by
    obtain ⟨v, vs', d, ds', p1, q1, rfl, rfl, rfl, h1, h2⟩ := ChangeShapes.trodAll_cons h
    simp only [psOk, Bool.and_eq_true, decide_eq_true_eq, beq_iff_eq] at hp
    obtain ⟨⟨⟨g1, g2⟩, g3⟩, g4⟩ := hp
    obtain ⟨y, k1, k2⟩ := val_open g1 g2 g3 (hv 0 t v rfl rfl) h1
    obtain ⟨x, k3, k4⟩ := args_open g4 (fun j t' v' e1 e2 => hv (j + 1) t' v' (by simpa using e1) (by simpa using e2)) h2
    exact ⟨(y, x), ⟨v, vs', rfl, k1, k3⟩, k2, k4⟩
  | [], _ :: _, _, _, _, hp, _, _ => by simp [psOk] at hp
  | _ :: _, [], _, _, _, hp, _, _ => by simp [psOk] at hp

theorem Grew.below {w w' : World} (h : Grew w w') : Below w.heap.size w w' := ⟨h.os, h.tape, h.output, h.size, h.block⟩

/-- A law's call. -/
theorem law_call {P : Program} {f : FuncId} {ps : List (Bool × K)} {share : Bool} {m : PDen ps → Option (PDen [(false, .bool)])} (c : CS.Sound P f ⟨ps, [(false, .bool)], share, m⟩) (hm : ∀ x, PWf ps x → m x = some (true, ()))
    {H : Type} {enc : TypeId × Value → H} {w w0 : World} {base base' : Nat} {spare : Nat → Bool} {held : Bool} {ts : List TypeId} {args : Array Value} {ds : List (DataW H)} {q : List MemPlace} (hps : psOk P ts ps = true)
    (hv : ∀ (j : Nat) t v, ts[j]? = some t → args.toList[j]? = some v → Value.okWide P w0 .any base' t v) (h : DataW.TrodAll enc P w base spare held ts args.toList ds q) :
    Calls P f args w fun e w' => e = .returned (.bool true) ∧ Below w.heap.size w w' := by
  obtain ⟨x, h1, h2⟩ := args_open hps hv h
  have := c.2 x _ (hm x h2) w (fun b => b < w.heap.size) args.toList (fun _ hb => hb) h1
  refine (by simpa using this : Calls P f args w _).mono ?_
  rintro e w' ⟨v, rfl, hg, hr⟩
  refine ⟨?_, hg.below⟩
  have hr : [v] = [Value.bool true] := hr
  simp only [List.cons.injEq, and_true] at hr
  rw [hr]

/-- Arguments read as they did. -/
theorem args_stay {H : Type} {enc : TypeId × Value → H} {P : Program} (hl : laidOutB P = true) {W W' : World} (hb : Below W.heap.size W W') : ∀ {ts : List TypeId} {vs : List Value} {ds : List (DataW H)} {q : List MemPlace}, (ts.all fun t => P.readableRec t && decide (t < P.types.size)) = true →
    DataW.TrodAll enc P W 0 (fun _ => true) true ts vs ds q → DataW.TrodAll enc P W' 0 (fun b => decide (b < W.heap.size)) true ts vs ds q
  | [], vs, ds, q, _, h => by
    obtain ⟨rfl, rfl, rfl⟩ := ChangeShapes.trodAll_nil h
    exact ChangeShapes.trodAll_mk0
  | t :: ts, vs, ds, q, hr, h => by
    have hlt := h.lt
    obtain ⟨v, vs', d, ds', p1, q1, rfl, rfl, rfl, h1, h2⟩ := ChangeShapes.trodAll_cons h
    simp only [List.all_cons, Bool.and_eq_true, decide_eq_true_eq] at hr
    exact trodAll_cons_mk (Below.trod hl hr.1.1 hr.1.2 h1 hb (fun x hx => hlt x (by simp [hx]))) (args_stay hl hb hr.2 h2)
end Go.Proofs.AM
end

section
/- Plain laws: how a loop's or a map walk's value is shown. -/
namespace Go.Proofs.AM
open Go

theorem wrap64 {n : Int} (h1 : -9223372036854775808 ≤ n) (h2 : n ≤ 9223372036854775807) : IntKind.wrap .i64 n = n := by
  have e1 : IntKind.bits .i64 = 64 := rfl
  have e2 : IntKind.signed .i64 = true := rfl
  simp only [IntKind.wrap, e1, e2, Bool.true_and, Nat.add_one_sub_one]
  split <;> rename_i h <;> simp at h <;> omega

theorem wrapU64 {n : Int} (h1 : 0 ≤ n) (h2 : n < 18446744073709551616) : IntKind.wrap .u64 n = n := by
  have e1 : IntKind.bits .u64 = 64 := rfl
  have e2 : IntKind.signed .u64 = false := rfl
  simp only [IntKind.wrap, e1, e2, Bool.false_and]
  simp
  omega

/-- A loop that goes through the states s 0, s 1, … and ends at s n. -/
theorem loop_idx {X E : Type} {f : X → Option (X ⊕ E)} (n : Nat) (s : Nat → X) {e : E} (step : ∀ i, i < n → f (s i) = some (.inl (s (i + 1)))) (fin : f (s n) = some (.inr e)) : loopM f (s 0) = some e := by
  suffices h : ∀ k i, i + k = n → iterM f (k + 1) (s i) = some e from loopM_of (h n 0 (by omega))
  intro k
  induction k with
  | zero => intro i hi; obtain rfl : i = n := by omega
            simp [iterM, fin]
  | succ k ih =>
    intro i hi
    unfold iterM
    rw [step i (by omega)]
    exact ih (i + 1) (by omega)

/-- The same, where the start is told apart. -/
theorem loop_idx' {X E : Type} {f : X → Option (X ⊕ E)} {x : X} (n : Nat) (s : Nat → X) {e : E} (start : x = s 0) (step : ∀ i, i < n → f (s i) = some (.inl (s (i + 1)))) (fin : f (s n) = some (.inr e)) : loopM f x = some e := start ▸ loop_idx n s step fin

/-- A loop that goes through s 0, s 1, … and may leave at any of them. -/
theorem loop_til {X E : Type} {f : X → Option (X ⊕ E)} {x : X} (n : Nat) (s : Nat → X) {e : E} (start : x = s 0) (step : ∀ i, i < n → f (s i) = some (.inl (s (i + 1))) ∨ f (s i) = some (.inr e)) (fin : f (s n) = some (.inr e)) : loopM f x = some e := by
  subst start
  suffices h : ∀ k i, i + k = n → iterM f (k + 1) (s i) = some e from loopM_of (h n 0 (by omega))
  intro k
  induction k with
  | zero => intro i hi; obtain rfl : i = n := by omega
            simp [iterM, fin]
  | succ k ih =>
    intro i hi
    unfold iterM
    rcases step i (by omega) with h | h
    · rw [h]; exact ih (i + 1) (by omega)
    · rw [h]

/-- A loop told by a measure. -/
theorem loop_wf {X E : Type} {f : X → Option (X ⊕ E)} (Q : X → E → Prop) (m : X → Nat) (step : ∀ x e, Q x e → f x = some (.inr e) ∨ ∃ y, f x = some (.inl y) ∧ Q y e ∧ m y < m x) : ∀ x e, Q x e → loopM f x = some e := by
  intro x e
  induction hm : m x using Nat.strongRecOn generalizing x with
  | _ n ih =>
    intro q
    rw [loopM_eq]
    rcases step x e q with h | ⟨y, h, q', lt⟩
    · rw [h]
    · rw [h]; exact ih (m y) (hm ▸ lt) y rfl q'

theorem goodM_unique {A X E : Type} {f : A → List A → X → Option (X ⊕ E)} {fin : X → Option (X ⊕ E)} : ∀ (n : Nat) (L : List A) (x : X) (e e' : E), L.length = n → goodM f fin n L x e → goodM f fin n L x e' → e = e'
  | 0, L, x, e, e', _, h, h' => by
    have := h.2.symm.trans h'.2; simpa using this
  | n + 1, L, x, e, e', hl, h, h' => by
    have h0 : L[0]? = some (L[0]'(by omega)) := by simp
    have a := h 0 _ h0
    have b := h' 0 _ h0
    split at a <;> rename_i eq <;> rw [eq] at b <;> simp only at b
    · exact goodM_unique n _ _ _ _ (by simp; omega) a b
    · rw [← a, ← b]

theorem anyM_good {A X E : Type} {f : A → List A → X → Option (X ⊕ E)} {fin : X → Option (X ⊕ E)} {L : List A} {x : X} {e : E} (h : goodM f fin L.length L x e) : anyM f fin L x = some e := by
  have hh : ∃ e, goodM f fin L.length L x e := ⟨e, h⟩
  unfold anyM
  rw [dif_pos hh]
  exact congrArg some (goodM_unique _ _ _ _ _ rfl (Classical.choose_spec hh) h)

/-- A walk over a map, by what holds of what is left and of the state. -/
theorem anyM_of {A X E : Type} {f : A → List A → X → Option (X ⊕ E)} {fin : X → Option (X ⊕ E)} {e : E} (Q : List A → X → Prop)
    (step : ∀ L x, Q L x → ∀ (j : Nat) (p : A), L[j]? = some p → (∃ y, f p (L.eraseIdx j) x = some (.inl y) ∧ Q (L.eraseIdx j) y) ∨ f p (L.eraseIdx j) x = some (.inr e))
    (done : ∀ x, Q [] x → fin x = some (.inr e)) : ∀ L x, Q L x → anyM f fin L x = some e := by
  suffices h : ∀ n L x, L.length = n → Q L x → goodM f fin n L x e from fun L x q => anyM_good (h _ L x rfl q)
  intro n
  induction n with
  | zero => intro L x hl q
            obtain rfl : L = [] := List.length_eq_zero_iff.1 hl
            exact ⟨rfl, done x q⟩
  | succ n ih =>
    intro L x hl q j p hj
    have hj' : j < L.length := by
      rcases Nat.lt_or_ge j L.length with h | h
      · exact h
      · simp [List.getElem?_eq_none h] at hj
    rcases step L x q j p hj with ⟨y, h, q'⟩ | h
    · rw [h]; exact ih _ _ (by rw [List.length_eraseIdx]; simp [hj']; omega) q'
    · rw [h]

/-! ### maps with numbers for keys -/
def ifind {V : Type} (es : List (Int × V)) (x : Int) : Option V := match es with
  | [] => none
  | p :: r => if x = p.1 then some p.2 else ifind r x

theorem ifind_cons {V : Type} (p : Int × V) (r : List (Int × V)) (x : Int) : ifind (p :: r) x = if x = p.1 then some p.2 else ifind r x := rfl

theorem mhas_ifind {V : Type} {q : IntKind} (es : List (Int × V)) (x : Int) : mhas (false, .int q) es x = (ifind es x).isSome := by
  induction es with
  | nil => rfl
  | cons p r ih =>
    have ih' : mhas (false, .int q) r x = (ifind r x).isSome := ih
    show ((decide (x = p.1)) || mhas (false, .int q) r x) = _
    rw [ih', ifind_cons]
    by_cases h : x = p.1 <;> simp [h]

theorem mget_ifind {V : Type} {q : IntKind} (es : List (Int × V)) (x : Int) (z : V) : mget (false, .int q) es x z = (ifind es x).getD z := by
  induction es with
  | nil => rfl
  | cons p r ih =>
    have ih' : mget (false, .int q) r x z = (ifind r x).getD z := ih
    show cond (decide (x = p.1)) p.2 (mget (false, .int q) r x z) = _
    rw [ih', ifind_cons]
    by_cases h : x = p.1 <;> simp [h]

theorem mset_ifind {V : Type} {q : IntKind} (es : List (Int × V)) (x : Int) (v : V) (y : Int) : ifind (mset (false, .int q) es x v) y = if y = x then some v else ifind es y := by
  induction es with
  | nil => show ifind [(x, v)] y = _; simp [ifind]
  | cons p r ih =>
    have ih' : ifind (mset (false, .int q) r x v) y = if y = x then some v else ifind r y := ih
    show ifind (cond (decide (x = p.1)) ((x, v) :: r) (p :: mset (false, .int q) r x v)) y = _
    by_cases h : x = p.1
    · simp only [h, decide_true, cond_true]
      rw [ifind_cons, ifind_cons]
      by_cases hy : y = p.1 <;> simp [hy]
    · simp only [h, decide_false, cond_false]
      rw [ifind_cons, ifind_cons, ih']
      by_cases hy : y = x
      · simp [hy, h]
      · by_cases h2 : y = p.1
        · subst h2; simp [hy, fun e => hy (Eq.symm e)]
        · simp [hy, h2]

theorem mset_keys {V : Type} {q : IntKind} (es : List (Int × V)) (x : Int) (v : V) : (∀ k, k ∈ (mset (false, .int q) es x v).map Prod.fst → k = x ∨ k ∈ es.map Prod.fst) := by
  induction es with
  | nil => intro k hk; have : k ∈ [((x : Int), v)].map Prod.fst := hk; simpa using this
  | cons p r ih =>
    intro k hk
    have hk' : k ∈ (cond (decide (x = p.1)) ((x, v) :: r) (p :: mset (false, .int q) r x v)).map Prod.fst := hk
    by_cases h : x = p.1
    · simp only [h, decide_true, cond_true] at hk'
      simp at hk'
      rcases hk' with rfl | hk'
      · exact .inl h.symm
      · right; simp [hk']
    · simp only [h, decide_false, cond_false] at hk'
      rw [List.map_cons, List.mem_cons] at hk'
      rcases hk' with rfl | hk'
      · right; simp
      · rcases ih k hk' with e | e
        · exact .inl e
        · right; rw [List.map_cons]; exact List.mem_cons_of_mem _ e

theorem mset_nodup {V : Type} {q : IntKind} (es : List (Int × V)) (x : Int) (v : V) (h : (es.map Prod.fst).Nodup) : ((mset (false, .int q) es x v).map Prod.fst).Nodup := by
  induction es with
  | nil => show ([((x : Int), v)].map Prod.fst).Nodup; simp
  | cons p r ih =>
    show ((cond (decide (x = p.1)) ((x, v) :: r) (p :: mset (false, .int q) r x v)).map Prod.fst).Nodup
    rw [List.map_cons, List.nodup_cons] at h
    by_cases hx : x = p.1
    · simp only [hx, decide_true, cond_true]
      rw [List.map_cons, List.nodup_cons]; exact h
    · simp only [hx, decide_false, cond_false]
      rw [List.map_cons, List.nodup_cons]
      refine ⟨fun hk => ?_, ih h.2⟩
      rcases mset_keys _ _ _ _ hk with e | e
      · exact hx e.symm
      · exact h.1 e

theorem ifind_mem {V : Type} {es : List (Int × V)} (h : (es.map Prod.fst).Nodup) {x : Int} {v : V} (m : (x, v) ∈ es) : ifind es x = some v := by
  induction es with
  | nil => simp at m
  | cons p r ih =>
    rw [List.map_cons, List.nodup_cons] at h
    unfold ifind
    rcases List.mem_cons.1 m with rfl | m
    · simp
    · by_cases hx : x = p.1
      · exact absurd (hx ▸ List.mem_map_of_mem (f := Prod.fst) m) h.1
      · rw [if_neg hx]; exact ih h.2 m

theorem ifind_none {V : Type} {es : List (Int × V)} {x : Int} (h : x ∉ es.map Prod.fst) : ifind es x = none := by
  induction es with
  | nil => rfl
  | cons p r ih =>
    rw [List.map_cons, List.mem_cons] at h
    unfold ifind
    rw [if_neg (fun e => h (.inl e))]
    exact ih (fun e => h (.inr e))

/-! ### what a model comes to, step by step -/
/-- The value is there, and so. -/
def Ok {A : Type} (o : Option A) (T : A → Prop) : Prop := ∃ r, o = some r ∧ T r

theorem Ok.some {A : Type} {T : A → Prop} {r : A} (h : T r) : Ok (some r) T := ⟨r, rfl, h⟩
theorem Ok.of {A : Type} {T : A → Prop} {o : Option A} {r : A} (e : o = Option.some r) (h : T r) : Ok o T := ⟨r, e, h⟩
theorem Ok.mono {A : Type} {S T : A → Prop} {o : Option A} (h : Ok o S) (k : ∀ r, S r → T r) : Ok o T := by
  obtain ⟨r, e, h⟩ := h; exact ⟨r, e, k r h⟩
theorem Ok.bind {A B : Type} {S : A → Prop} {T : B → Prop} {a : Option A} {f : A → Option B} (h : Ok a S) (k : ∀ x, S x → Ok (f x) T) : Ok (Option.bind a f) T := by
  obtain ⟨r, rfl, h⟩ := h; exact k r h
theorem Ok.gd {A : Type} {T : A → Prop} {c : Prop} [Decidable c] {x : Option A} (h : c) (k : Ok x T) : Ok (gd c x) T := by rw [gd_pos h]; exact k
theorem Ok.cond {A : Type} {T : A → Prop} {c : Prop} [Decidable c] {x y : Option A} (h : c → Ok x T) (k : ¬ c → Ok y T) : Ok (bif decide c then x else y) T := by
  by_cases hc : c
  · rw [decide_eq_true hc]; exact h hc
  · rw [decide_eq_false hc]; exact k hc
theorem Ok.condb {A : Type} {T : A → Prop} {b : Bool} {x y : Option A} (h : b = true → Ok x T) (k : b = false → Ok y T) : Ok (bif b then x else y) T := by
  cases b
  · exact k rfl
  · exact h rfl
theorem Ok.ncond {A : Type} {T : A → Prop} {c : Prop} [Decidable c] {x y : Option A} (h : ¬ c → Ok x T) (k : c → Ok y T) : Ok (bif !decide c then x else y) T := by
  by_cases hc : c
  · rw [decide_eq_true hc]; exact k hc
  · rw [decide_eq_false hc]; exact h hc
theorem Ok.ite {A : Type} {T : A → Prop} {c : Prop} [Decidable c] {x y : Option A} (h : c → Ok x T) (k : ¬ c → Ok y T) : Ok (if c then x else y) T := by
  by_cases hc : c
  · rw [if_pos hc]; exact h hc
  · rw [if_neg hc]; exact k hc

/-- A loop that ends: what holds at its i-th round, and behind it. -/
theorem Ok.loop {X E : Type} {f : X → Option (X ⊕ E)} {x : X} {T : E → Prop} (n : Nat) (Q : Nat → X → Prop) (start : Q 0 x) (step : ∀ i x, i ≤ n → Q i x → Ok (f x) (fun s => s.elim (fun y => i < n ∧ Q (i + 1) y) T)) : Ok (loopM f x) T := by
  suffices H : ∀ k i x, i + k = n → Q i x → Ok (loopM f x) T from H n 0 x (by omega) start
  intro k
  induction k with
  | zero =>
    intro i x hi q
    obtain ⟨r, e, h⟩ := step i x (by omega) q
    rw [loopM_eq, e]
    cases r with
    | inl y => exact absurd h.1 (by omega)
    | inr e => exact ⟨_, rfl, h⟩
  | succ k ih =>
    intro i x hi q
    obtain ⟨r, e, h⟩ := step i x (by omega) q
    rw [loopM_eq, e]
    cases r with
    | inl y => exact ih (i + 1) y (by omega) h.2
    | inr e => exact ⟨_, rfl, h⟩

theorem Ok.inl {X E : Type} {Q : X → Prop} {T : E → Prop} {y : X} (h : Q y) : Ok (Option.some (Sum.inl y)) (fun s : X ⊕ E => s.elim Q T) := ⟨_, rfl, h⟩
theorem Ok.inr {X E : Type} {Q : X → Prop} {T : E → Prop} {e : E} (h : T e) : Ok (Option.some (Sum.inr e)) (fun s : X ⊕ E => s.elim Q T) := ⟨_, rfl, h⟩
theorem Ok.elim {A B C : Type} {T : C → Prop} {f : A → Option C} {g : B → Option C} {s : A ⊕ B} (h : ∀ a, s = .inl a → Ok (f a) T) (k : ∀ b, s = .inr b → Ok (g b) T) : Ok (Sum.elim f g s) T := by
  cases s with
  | inl a => exact h a rfl
  | inr b => exact k b rfl

/-! ### maps whose keys are told apart as they should -/
theorem mget_mset {k : Bool × K} (hb : ∀ x y : k.2.den, k.2.beq x y = true ↔ x = y) {V : Type} (es : List (k.2.den × V)) (x : k.2.den) (v : V) (y : k.2.den) (z : V) : mget k (mset k es x v) y z = (open Classical in if y = x then v else mget k es y z) := by
  induction es with
  | nil =>
    simp only [mset, mget]
    by_cases h : y = x
    · rw [(hb y x).2 h]; simp [h]
    · have : k.2.beq y x = false := by cases hh : k.2.beq y x; rfl; exact absurd ((hb y x).1 hh) h
      simp [this, h]
  | cons p r ih =>
    simp only [mset]
    by_cases hxp : x = p.1
    · rw [(hb x p.1).2 hxp]
      simp only [cond_true, mget]
      by_cases h : y = x
      · rw [(hb y x).2 h]; simp [h]
      · have h1 : k.2.beq y x = false := by cases hh : k.2.beq y x; rfl; exact absurd ((hb y x).1 hh) h
        have h2 : k.2.beq y p.1 = false := by cases hh : k.2.beq y p.1; rfl; exact absurd (((hb y p.1).1 hh).trans hxp.symm) h
        simp [h1, h2, h]
    · have h0 : k.2.beq x p.1 = false := by cases hh : k.2.beq x p.1; rfl; exact absurd ((hb x p.1).1 hh) hxp
      rw [h0]
      simp only [cond_false, mget]
      by_cases h : y = p.1
      · rw [(hb y p.1).2 h]
        have : y ≠ x := fun e => hxp (e ▸ h)
        simp [this]
      · have h1 : k.2.beq y p.1 = false := by cases hh : k.2.beq y p.1; rfl; exact absurd ((hb y p.1).1 hh) h
        simp only [h1, cond_false, ih]

end Go.Proofs.AM
end

section
/- The row's arguments as data, where each slice takes no more than a process's memory holds. -/
namespace Go.Proofs.AM
open Go Go.RowKit

/-- Each list is as short as memory wants it. -/
def K.sz : (k : K) → k.den → Prop
  | .pair a b, x => a.sz x.1 ∧ b.sz x.2
  | .sl k, xs => List.length xs ≤ 140737488351232 ∧ ∀ x ∈ (show List k.den from xs), k.sz x
  | .rp k, x => k.sz x
  | _, _ => True

def PSz : (ps : List (Bool × K)) → PDen ps → Prop
  | [], _ => True
  | p :: ps, x => p.2.sz x.1 ∧ PSz ps x.2

/-- Elements take room. -/
def roomy (P : Program) : Nat → TypeId → Bool
  | 0, _ => false
  | n + 1, t => match P.underlying t with
    | some (.slice e) => decide (0 < P.bytesOf e) && roomy P n e
    | some (.struct fs) => fs.toList.all fun f => roomy P n f.type
    | _ => true

theorem weightsAll_mem {H : Type} {P : Program} {e : TypeId} : ∀ {ds : List (DataW H)} {d : DataW H}, d ∈ ds → ∀ n ∈ d.weights P e, n ∈ DataW.weightsAll P e ds
  | x :: ds, d, hd, n, hn => by
    rcases List.mem_cons.1 hd with rfl | hd
    · simp only [DataW.weightsAll, List.mem_append]; exact .inl hn
    · simp only [DataW.weightsAll, List.mem_append]; exact .inr (weightsAll_mem hd n hn)

section
variable {H : Type} {enc : TypeId × Value → H} {P : Program} {w : World} {base : Nat} {spare : Nat → Bool} {held : Bool}

theorem fields_openS {q : TypeId → Option K} {g g2 : TypeId → Bool} {R : Field → DataW H → Prop} {total : Nat} {cs : List Value} (htot : cs.length = total) {N : Nat → Prop}
    (ih : ∀ (f : Field) k cells, q f.type = some k → g f.type = true → g2 f.type = true → (∃ n x, DataW.trod enc P w base spare held n f.type cells = some x ∧ R f x.1) → ∃ y, k.rd w N y cells ∧ k.wf y ∧ k.sz y) :
    ∀ (l : List Field) (off : Nat) (k : K), kindFields q l = some k → layF P q g total l off = true → off ≤ total → (∀ f ∈ l, g2 f.type = true) →
      (∀ f ∈ l, ∃ n x, DataW.trod enc P w base spare held n f.type ((cs.drop f.offset).take (P.cellsOf f.type)) = some x ∧ R f x.1) → ∃ y, k.rd w N y (cs.drop off) ∧ k.wf y ∧ k.sz y
  | [], off, k, hk, hl, _, _, _ => by
    simp only [kindFields, Option.some.injEq] at hk
    subst hk
    simp only [layF, beq_iff_eq] at hl
    exact ⟨(), by show cs.drop off = []; rw [List.drop_eq_nil_iff]; omega, trivial, trivial⟩
  | [x], off, k, hk, hl, ho, hg, hx => by
    simp only [kindFields] at hk
    simp only [layF, hk, Bool.and_eq_true, beq_iff_eq] at hl
    obtain ⟨⟨⟨h1, h2⟩, h3⟩, h4⟩ := hl
    obtain ⟨n, y, hy, hR⟩ := hx x (by simp)
    have : (cs.drop x.offset).take (P.cellsOf x.type) = cs.drop off := by
      rw [h1, List.take_of_length_le]; simp; omega
    rw [this] at hy
    exact ih x k _ hk h3 (hg x (by simp)) ⟨n, y, hy, hR⟩
  | x :: y :: r, off, k, hk, hl, ho, hg, hx => by
    unfold kindFields at hk
    split at hk
    rotate_left
    · simp at hk
    rename_i a b ha hb
    simp only [Option.some.injEq] at hk
    subst hk
    unfold layF at hl
    simp only [ha, Bool.and_eq_true, beq_iff_eq] at hl
    obtain ⟨⟨⟨h1, h2⟩, h3⟩, h4⟩ := hl
    obtain ⟨n, z, hz, hR⟩ := hx x (by simp)
    obtain ⟨y1, g1, g2, g2'⟩ := ih x a _ ha h3 (hg x (by simp)) ⟨n, z, hz, hR⟩
    have hlen := K.rd_len w N a y1 _ g1
    have hle : off + P.cellsOf x.type ≤ total := by
      rw [List.length_take, List.length_drop, h1, ← h2] at hlen
      omega
    obtain ⟨y2, g3, g4, g4'⟩ := fields_openS htot ih (y :: r) (off + P.cellsOf x.type) b hb h4 hle (fun f hf => hg f (by simp [hf])) (fun f hf => hx f (by simp [hf]))
    refine ⟨(y1, y2), ⟨_, _, ?_, g1, g3⟩, ⟨g2, g4⟩, g2', g4'⟩
    rw [h1, ← List.drop_drop, List.take_append_drop]

theorem trod_openS : ∀ (n : Nat) (t : TypeId) (k : K), kindOf P n t = some k → lay P n t = true → roomy P n t = true → ∀ (fuel : Nat) (cs : List Value) (x : DataW H × List MemPlace), DataW.trod enc P w base spare held fuel t cs = some x → (∀ n ∈ x.1.weights P t, n ≤ reachBytes) →
    ∃ y, k.rd w (fun b => b < w.heap.size) y cs ∧ k.wf y ∧ k.sz y := by
  intro n
  induction n with
  | zero => intro t k hk; simp [kindOf] at hk
  | succ n ih =>
    intro t k hk hl hro fuel cs x h hwt
    unfold kindOf at hk
    unfold lay at hl
    unfold roomy at hro
    cases hu : P.underlying t with
    | none => simp [hu] at hk
    | some d =>
      simp only [hu] at hk hl hro
      cases d with
      | int q =>
        simp only [Option.some.injEq] at hk; subst hk
        obtain ⟨m, rfl, _, hw⟩ := DataW.trod_int hu h
        exact ⟨m, rfl, hw, trivial⟩
      | bool =>
        simp only [Option.some.injEq] at hk; subst hk
        obtain ⟨b, rfl, _⟩ := DataW.trod_bool hu h
        exact ⟨b, rfl, trivial, trivial⟩
      | string =>
        simp only [Option.some.injEq] at hk; subst hk
        obtain ⟨s, rfl, _, hs⟩ := DataW.trod_string hu h
        exact ⟨s, rfl, hs, trivial⟩
      | slice e =>
        dsimp only at hk hl hro
        simp only [Bool.and_eq_true, decide_eq_true_eq] at hro
        split at hk
        rotate_left
        · simp at hk
        rename_i q hq
        simp only [Option.some.injEq] at hk; subst hk
        simp only [hq, Bool.and_eq_true, beq_iff_eq, decide_eq_true_eq] at hl
        obtain ⟨⟨hsz, hpos⟩, hle⟩ := hl
        rcases DataW.trod_slice hu h with ⟨rfl, _⟩ | ⟨a, len, cap, elems, rest, m, _, rfl, hxe, hb, hlc, hm, hlen, hel, _, _⟩
        · exact ⟨[], ⟨none, 0, rfl, Nat.le_refl _, .inl rfl⟩, ⟨Nat.zero_le _, by simp⟩, Nat.zero_le _, by simp⟩
        · subst hxe
          have hw1 : (elems.length + rest.length) * P.bytesOf e ≤ reachBytes := hwt _ (by simp [DataW.weights, hu])
          have hlen2 : len ≤ 140737488351232 := by
            have h1 : elems.length + rest.length ≤ (elems.length + rest.length) * P.bytesOf e := Nat.le_mul_of_pos_right _ hro.1
            have h2 : reachBytes = 140737488351232 := by decide
            omega
          have each : ∀ i, i < len → ∃ cells y, w.cells? base (a.add (i * P.cellsOf e)) (P.cellsOf e) = some cells ∧ q.rd w (fun b => b < w.heap.size) y cells ∧ q.wf y ∧ q.sz y := by
            intro i hi
            have hi' := hel i hi
            obtain ⟨z, hz⟩ : ∃ z, elems[i]? = some z := ⟨_, List.getElem?_eq_getElem (by omega)⟩
            rw [hz, Option.bind_eq_some_iff] at hi'
            obtain ⟨cells, h1, h2⟩ := hi'
            obtain ⟨y, h3, h4⟩ := ih e q hq hle hro.2 m cells z h2 (fun n hn => hwt n (by
              have hzm : z.1 ∈ elems.map (·.1) := List.mem_map_of_mem (List.mem_of_getElem? hz)
              have := weightsAll_mem hzm n hn
              simp only [DataW.weights, hu, List.mem_cons, List.mem_append]
              exact .inr (.inl this)))
            exact ⟨cells, y, h1, h3, h4⟩
          have build : ∀ j, j ≤ len → ∃ (ys : List q.den) (es : List Value), ys.length = j ∧ es.length = j * P.cellsOf e ∧ rows (q.rd w (fun b => b < w.heap.size)) ys es ∧ (∀ y ∈ ys, q.wf y ∧ q.sz y) ∧ ∀ i v, es[i]? = some v → w.cell? (a.add i) = some v := by
            intro j
            induction j with
            | zero => exact fun _ => ⟨[], [], rfl, by simp, rfl, by simp, by simp⟩
            | succ j ihj =>
              intro hj
              obtain ⟨ys, es, h1, h2, h3, h4, h5⟩ := ihj (by omega)
              obtain ⟨cells, y, g1, g2, g3⟩ := each j (by omega)
              obtain ⟨g4, g5⟩ := cells_at g1
              refine ⟨ys ++ [y], es ++ cells, by simp [h1], by rw [List.length_append, h2, g4, Nat.add_mul, Nat.one_mul], h3.app ⟨cells, [], by simp, g2, rfl⟩, ?_, fun i v hv => ?_⟩
              · intro z hz
                rcases List.mem_append.1 hz with hz | hz
                · exact h4 z hz
                · simp at hz; subst hz; exact g3
              · by_cases hi : i < es.length
                · rw [List.getElem?_append_left hi] at hv; exact h5 i v hv
                · rw [List.getElem?_append_right (by omega)] at hv
                  have := g5 _ v hv
                  rw [h2] at this
                  have hi : j * P.cellsOf e ≤ i := by omega
                  have e2 : (a.add (j * P.cellsOf e)).add (i - j * P.cellsOf e) = a.add i ∨ j * P.cellsOf e = i := by
                    by_cases hh : i = j * P.cellsOf e
                    · exact .inr hh.symm
                    · left
                      unfold Addr.add
                      have hd : i - j * P.cellsOf e ≠ 0 := by omega
                      have hi0 : i ≠ 0 := by omega
                      rw [if_neg hd, if_neg hi0]
                      split
                      · rename_i hz; rw [hz] at hi ⊢; simp
                      · simp only [Addr.mk.injEq, true_and, and_true]; omega
                  rcases e2 with e2 | e2
                  · rw [← e2]; exact this
                  · rw [← e2, Nat.sub_self] at this
                    rw [← e2]
                    have e3 : ∀ b : Addr, b.add 0 = b := fun b => by simp [Addr.add]
                    rw [e3] at this; exact this
          obtain ⟨ys, es, h1, h2, h3, h4, h5⟩ := build len (Nat.le_refl _)
          refine ⟨ys, ⟨some a, cap, by show [Value.slice (some a) len cap] = [Value.slice (some a) ys.length cap]; rw [h1], by show ys.length ≤ cap; rw [h1]; exact hlc, ?_⟩, ⟨by show List.length ys ≤ maxLen; omega, fun y hy => (h4 y hy).1⟩, by show List.length ys ≤ 140737488351232; omega, fun y hy => (h4 y hy).2⟩
          by_cases h0 : ys.length = 0
          · exact .inl h0
          · right
            have hne : 0 < es.length := by rw [h2, hsz]; exact Nat.mul_pos (by omega) hpos
            obtain ⟨v, hv⟩ : ∃ v, es[0]? = some v := ⟨_, List.getElem?_eq_getElem hne⟩
            have hc := h5 0 v hv
            have ha0 : a.add 0 = a := by simp [Addr.add]
            rw [ha0] at hc
            have hsp : a.spot = none ∧ a.block < w.heap.size := by
              unfold World.cell? at hc
              split at hc
              · rename_i hb2
                split at hc
                · simp at hc
                · rename_i hs
                  exact ⟨by simpa using hs, (Array.getElem?_eq_some_iff.1 hb2).1⟩
              · simp at hc
            obtain ⟨b, off, sp⟩ := a
            obtain rfl : sp = none := hsp.1
            refine ⟨b, off, es, rfl, hsp.2, fun i v hv => ?_, h3⟩
            have := h5 i v hv
            unfold Addr.add at this
            split at this
            · rename_i hi; subst hi; exact this
            · exact this
      | struct fs =>
        dsimp only at hk hl hro
        obtain ⟨xs, m, _, hxe, hlen, hxl, hx⟩ := DataW.trod_struct hu h
        subst hxe
        have hgo : ∀ f ∈ fs.toList, roomy P n f.type = true := fun f hf => List.all_eq_true.1 hro f hf
        have ihf : ∀ (f : Field) k cells, kindOf P n f.type = some k → lay P n f.type = true → roomy P n f.type = true → (∃ n x, DataW.trod enc P w base spare held n f.type cells = some x ∧ (∀ m ∈ x.1.weights P f.type, m ≤ reachBytes)) → ∃ y, k.rd w (fun b => b < w.heap.size) y cells ∧ k.wf y ∧ k.sz y :=
          fun f k cells h1 h2 h2' ⟨n', x', h3, h4⟩ => ih f.type k h1 h2 h2' n' cells x' h3 h4
        have hf : ∀ f ∈ fs.toList, ∃ n x, DataW.trod enc P w base spare held n f.type ((cs.drop f.offset).take (P.cellsOf f.type)) = some x ∧ (∀ m ∈ x.1.weights P f.type, m ≤ reachBytes) := by
          intro f hf
          obtain ⟨i, hi⟩ := List.mem_iff_getElem?.1 hf
          have hi' : fs[i]? = some f := by simpa using hi
          have := hx i f hi'
          obtain ⟨z, hz⟩ : ∃ z, xs[i]? = some z := ⟨_, List.getElem?_eq_getElem (by rw [hxl]; exact (Array.getElem?_eq_some_iff.1 hi').1)⟩
          refine ⟨m, z, this.trans hz, fun n hn => hwt n ?_⟩
          simp only [DataW.weights, hu]
          exact DataW.weights_mem_each (j := i) (t := f.type) (d := z.1) (by simp [List.getElem?_map, hi]) (by simp [List.getElem?_map, hz]) n hn
        split at hk
        · rename_i x1 hfs
          split at hk
          rotate_left
          · simp at hk
          rename_i q hq
          simp only [Option.some.injEq] at hk; subst hk
          rw [hfs] at hl hf hgo
          obtain ⟨y, g1, g2, g3⟩ := fields_openS (enc := enc) (R := fun f d => ∀ m ∈ d.weights P f.type, m ≤ reachBytes) hlen ihf [x1] 0 q (by simp [kindFields, hq]) hl (Nat.zero_le _) hgo hf
          exact ⟨(y, ()), ⟨cs, [], by simp, by simpa using g1, rfl⟩, ⟨g2, trivial⟩, g3, trivial⟩
        · obtain ⟨y, g1, g2⟩ := fields_openS (enc := enc) (R := fun f d => ∀ m ∈ d.weights P f.type, m ≤ reachBytes) hlen ihf fs.toList 0 k hk hl (Nat.zero_le _) hgo hf
          exact ⟨y, by simpa using g1, g2⟩
      | _ => simp at hk
end

theorem val_openS {H : Type} {enc : TypeId × Value → H} {P : Program} {w w0 : World} {base base' : Nat} {spare : Nat → Bool} {held : Bool} {t : TypeId} {v : Value} {d : DataW H} {q : List MemPlace} {p : Bool × K} (hk : kindOf P 30 t = some p.2) (hg : isAggT P t = p.1) (hl : lay P 30 t = true) (hro : roomy P 30 t = true)
    (hok : Value.okWide P w0 .any base' t v) (h : DataW.Trod enc P w base spare held t v d q) (hwt : ∀ n ∈ d.weights P t, n ≤ reachBytes) : ∃ y, valR w (fun b => b < w.heap.size) p y v ∧ p.2.wf y ∧ p.2.sz y := by
  obtain ⟨fuel, hf⟩ := h
  obtain ⟨y, h1, h2⟩ := trod_openS 30 t p.2 hk hl hro fuel _ _ hf hwt
  refine ⟨y, ?_, h2⟩
  obtain ⟨pa, pk⟩ := p
  cases pa with
  | true =>
    have : ∃ cs, v = .agg cs := by
      unfold isAggT at hg
      unfold Value.okWide at hok
      split at hg
      · rename_i hu; rw [hu] at hok; obtain ⟨cs, e, _⟩ := hok; exact ⟨cs, e⟩
      · rename_i hu; rw [hu] at hok; obtain ⟨cs, e, _⟩ := hok; exact ⟨cs, e⟩
      · simp at hg
    obtain ⟨cs, rfl⟩ := this
    exact ⟨cs.toList, by simp, by simpa [Value.cells] using h1⟩
  | false =>
    have : v.cells = #[v] := by
      unfold kindOf at hk
      cases hu : P.underlying t with
      | none => simp [hu] at hk
      | some dd =>
        simp only [hu] at hk
        cases dd with
        | int q => obtain ⟨m, rfl⟩ := WideShapes.okWide_int hu hok; rfl
        | bool => obtain ⟨m, rfl⟩ := WideShapes.okWide_bool hu hok; rfl
        | string => obtain ⟨m, rfl⟩ := WideShapes.okWide_string hu hok; rfl
        | slice e => obtain ⟨a, b, c, rfl⟩ := WideShapes.okWide_slice hu hok; rfl
        | struct fs => simp [isAggT, hu] at hg
        | _ => simp at hk
    rw [this] at h1
    exact h1

theorem args_openS {H : Type} {enc : TypeId × Value → H} {P : Program} {w w0 : World} {base base' : Nat} {spare : Nat → Bool} {held : Bool} : ∀ {ts : List TypeId} {ps : List (Bool × K)} {vs : List Value} {ds : List (DataW H)} {q : List MemPlace}, psOk P ts ps = true →
    (∀ (j : Nat) t v, ts[j]? = some t → vs[j]? = some v → Value.okWide P w0 .any base' t v) → (∀ t ∈ ts, roomy P 30 t = true) → DataW.TrodAll enc P w base spare held ts vs ds q → (∀ n ∈ DataW.weightsEach P ts ds, n ≤ reachBytes) → ∃ x, argsR w (fun b => b < w.heap.size) ps x vs ∧ PWf ps x ∧ PSz ps x
  | [], [], vs, ds, q, _, _, _, h, _ => by
    obtain ⟨rfl, _, _⟩ := ChangeShapes.trodAll_nil h
    exact ⟨(), rfl, trivial, trivial⟩
  | t :: ts, p :: ps, vs, ds, q, hp, hv, hro, h, hwt => by
    obtain ⟨v, vs', d, ds', p1, q1, rfl, rfl, rfl, h1, h2⟩ := ChangeShapes.trodAll_cons h
    simp only [psOk, Bool.and_eq_true, decide_eq_true_eq, beq_iff_eq] at hp
    obtain ⟨⟨⟨g1, g2⟩, g3⟩, g4⟩ := hp
    simp only [DataW.weightsEach] at hwt
    obtain ⟨y, k1, k2, k2'⟩ := val_openS g1 g2 g3 (hro t (by simp)) (hv 0 t v rfl rfl) h1 (fun n hn => hwt n (List.mem_append_left _ hn))
    obtain ⟨x, k3, k4, k4'⟩ := args_openS g4 (fun j t' v' e1 e2 => hv (j + 1) t' v' (by simpa using e1) (by simpa using e2)) (fun t' h' => hro t' (by simp [h'])) h2 (fun n hn => hwt n (List.mem_append_right _ hn))
    exact ⟨(y, x), ⟨v, vs', rfl, k1, k3⟩, ⟨k2, k4⟩, k2', k4'⟩
  | [], _ :: _, _, _, _, hp, _, _, _, _ => by simp [psOk] at hp
  | _ :: _, [], _, _, _, hp, _, _, _, _ => by simp [psOk] at hp

/-- A law's call. -/
theorem law_callS {P : Program} {f : FuncId} {ps : List (Bool × K)} {share : Bool} {m : PDen ps → Option (PDen [(false, .bool)])} (c : CS.Sound P f ⟨ps, [(false, .bool)], share, m⟩) (hm : ∀ x, PWf ps x → PSz ps x → m x = some (true, ()))
    {H : Type} {enc : TypeId × Value → H} {w w0 : World} {base base' : Nat} {spare : Nat → Bool} {held : Bool} {ts : List TypeId} {args : Array Value} {ds : List (DataW H)} {q : List MemPlace} (hps : psOk P ts ps = true) (hro : (ts.all fun t => roomy P 30 t) = true)
    (hv : ∀ (j : Nat) t v, ts[j]? = some t → args.toList[j]? = some v → Value.okWide P w0 .any base' t v) (h : DataW.TrodAll enc P w base spare held ts args.toList ds q) (hwt : (DataW.weightsEach P ts ds).all (· ≤ reachBytes) = true) :
    Calls P f args w fun e w' => e = .returned (.bool true) ∧ Below w.heap.size w w' := by
  obtain ⟨x, h1, h2, h3⟩ := args_openS hps hv (fun t ht => List.all_eq_true.1 hro t ht) h (fun n hn => by simpa using List.all_eq_true.1 hwt n hn)
  have := c.2 x _ (hm x h2 h3) w (fun b => b < w.heap.size) args.toList (fun _ hb => hb) h1
  refine (by simpa using this : Calls P f args w _).mono ?_
  rintro e w' ⟨v, rfl, hg, hr⟩
  refine ⟨?_, hg.below⟩
  have hr : [v] = [Value.bool true] := hr
  simp only [List.cons.injEq, and_true] at hr
  rw [hr]

end Go.Proofs.AM
end
