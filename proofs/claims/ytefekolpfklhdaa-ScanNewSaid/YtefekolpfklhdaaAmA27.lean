/- A function's contract from its body. -/
import Derived.Test.YtefekolpfklhdaaAmA26
import Derived.RangeFuncLeaves
import Derived.RangeFuncRecord
set_option maxRecDepth 2000
set_option linter.unusedVariables false
set_option linter.unusedSimpArgs false
namespace Go.Proofs.AM
open Go Go.RowKit

/-! ### leaving -/
section
variable {P : Program} {C : Cx} {s : AS} {β : List Bl} {a : Act} {w : World}

theorem Rel.unmark (h : Rel C s β a w) {l : Nat} {ms : List Nat} (hm : s.marks = l :: ms) (hl : l ∉ ms) (hfr : ∀ f ∈ C.frs, l ∉ f.marks) :
    ∃ b ds, a.defers = { target := .collected b, args := #[] } :: ds ∧ w.heap[b]? = some (.deferred (some [])) ∧
      Rel C { s with heap := s.heap.set l (true, .dead), marks := ms } β { a with defers := ds } (w.putObj b (.deferred none)) := by
  obtain ⟨bs, e, hb⟩ := h.defers
  rw [hm] at hb
  match bs, hb with
  | b :: bs, hb =>
    obtain ⟨⟨r, hr, rfl, ho⟩, hb⟩ := hb
    have hRm : w.heap[r.blk]? = some (.deferred (some [])) := h.ob l _ r ho hr
    have hlt : r.blk < w.heap.size := (Array.getElem?_eq_some_iff.1 hRm).1
    refine ⟨r.blk, bs.map fun b => { target := .collected b, args := #[] }, by rw [e]; rfl, hRm, ?_⟩
    have h1 : Rel C { s with marks := ms } β { a with defers := bs.map fun b => { target := .collected b, args := #[] } } w :=
      { h with defers := ⟨bs, rfl, hb⟩, tsize := h.tsize, tm := h.tm }
    have hll : l < s.heap.length := (List.getElem?_eq_some_iff.1 ho).1
    have only : ∀ (l1 : Nat) (o1 : Bool × AObj), (s.heap.set l (true, AObj.dead))[l1]? = some o1 → (l1 = l ∨ s.heap.length ≤ l1) → o1 = (true, .dead) := by
      intro l1 o1 h1 h2
      have : l1 = l := by
        rcases h2 with h2 | h2
        · exact h2
        · have := (List.getElem?_eq_some_iff.1 h1).1; simp at this; omega
      subst this
      simp [hll] at h1; exact h1.symm
    have := h1.gen (s.heap.set l (true, .dead)) [] (w.putObj r.blk (.deferred none)) (fun x => x = l) rfl rfl rfl (by simp [World.putObj]) (by simp)
      (fun l1 o1 h1 hn => ⟨o1, by rw [List.getElem?_set_ne (Ne.symm hn)]; exact h1, rfl⟩)
      (fun l1 hl1 h1 => by
        have : l ≠ l1 := fun e => by
          rcases hl1 with hl1 | ⟨f, hf, hl1⟩
          · exact hl (e ▸ hl1)
          · exact hfr f hf (e ▸ hl1)
        rw [List.getElem?_set_ne this]; exact h1)
      (fun b hb hx => World.putObj_heap_other (fun e => hx l _ r ho hr rfl (by rw [e]; simp [AObj.occ])))
      (fun l1 o1 r1 b h1 h2 h3 hx => by
        rw [only l1 o1 h1 h3] at hx; simp [AObj.occ] at hx)
      (fun l1 l2 o1 o2 r1 r2 b h1 h2 h1' h2' h3 h3' hx _ => by
        rw [only l1 o1 h1 h3] at hx; simp [AObj.occ] at hx)
      (fun l1 o1 r1 h1 h2 h3 _ _ _ _ => by
        rw [only l1 o1 h1 h3]; trivial)
    simpa using this.1

def nodupN : List Nat → Bool
  | [] => true
  | x :: l => !l.contains x && nodupN l

def killMarks (h : Heap) (ms : List Nat) : Heap := ms.foldl (fun h l => h.set l (true, .dead)) h

/-- The state as a function leaves. -/
def AS.out (s : AS) : AS := { s with heap := killMarks s.heap s.marks, marks := [] }

theorem leave {F : Fence} {n : Nat} {fn : Func} {Rr : Ending → World → Prop} : ∀ (ms : List Nat) (s : AS) (a : Act) (w : World), Rel C s β a w → s.marks = ms → nodupN ms = true → (∀ l ∈ ms, ∀ f ∈ C.frs, l ∉ f.marks) →
    (∀ a' w', Rel C s.out β a' w' → a'.tmps = a.tmps → ∃ v, (results fn a.tmps).run P w' = .ok v w' ∧ Rr (.returned v) w') →
    LeavesInM F n P fn a.tmps Rr a.defers .returning w
  | [], s, a, w, h, hm, _, _, hfin => by
    obtain ⟨bs, e, hb⟩ := h.defers
    rw [hm] at hb
    match bs, hb with
    | [], _ =>
      rw [e]
      refine hfin a w ?_ rfl
      have : s.out = s := by unfold AS.out; rw [hm]; cases s; simp_all [killMarks]
      rw [this]; exact h
  | l :: ms, s, a, w, h, hm, hn, hfs, hfin => by
    simp only [nodupN, Bool.and_eq_true, Bool.not_eq_true'] at hn
    obtain ⟨b, ds, e, hw, h'⟩ := h.unmark hm (by simpa using hn.1) (hfs l (by simp))
    rw [e]
    refine ⟨by simp, .inl ⟨b, _, rfl, run_takeDeferred hw, ?_⟩⟩
    have := leave ms _ { a with defers := ds } _ h' rfl hn.2 (fun l hl => hfs l (by simp [hl])) (fn := fn) (Rr := Rr) (F := F) (n := n) (fun a' w' hr ht => by
      refine hfin a' w' ?_ ht
      have : s.out = AS.out { s with heap := s.heap.set l (true, .dead), marks := ms } := by
        unfold AS.out; rw [hm]; rfl
      rw [this]; exact hr)
    exact this

/-! ### results -/
def ares1 (P : Program) (s : AS) : ResultVar → Option TV
  | .tmp t => s.tmps[t]?
  | .cell a t => match s.tmps[a]? with
    | some (.one (.ptr l off)) => aload P s.heap t (.ptr l off) some
    | _ => none

def aresults (P : Program) (s : AS) : List ResultVar → Option (List TV)
  | [] => some []
  | r :: l => match ares1 P s r, aresults P s l with
    | some t, some ts => some (t :: ts)
    | _, _ => none

def resOf (tmps : Array Value) : ResultVar → Sem Value
  | .tmp t => pure (tmps.getD t undef)
  | .cell a t => do loadVar t (← asAddr (tmps.getD a undef))

theorem ares1_sound (h : Rel C s β a w) {x : ResultVar} {t : TV} (e : ares1 P s x = some t) : ∃ v, (resOf a.tmps x).run P w = .ok v w ∧ t.R w (C.N s.heap β w) (C.fresh s.heap β w) β v := by
  cases x with
  | tmp i => exact ⟨_, by simp [resOf], h.tm i t e⟩
  | cell i ty =>
    simp only [ares1] at e
    split at e
    · rename_i l off hi
      have hp : (AV.ptr l off).R w (C.N s.heap β w) (C.fresh s.heap β w) β (a.tmps.getD i undef) := h.tm i _ hi
      obtain ⟨tv, v, h1, h2, h3⟩ := aload_sound (P := P) h hp e
      cases h1
      refine ⟨v, ?_, h3⟩
      obtain ⟨r, hr, hv⟩ := hp
      have hv' : a.tmps.getD i undef = .pointer (some ⟨r.blk, r.base + off, none⟩) := hv
      rw [hv'] at h2
      simp only [resOf, hv', asAddr, pure_bind]
      simpa [Instr.loadAt, Instr.sureAddr] using h2
    · simp at e

theorem aresults_sound (h : Rel C s β a w) : ∀ {l : List ResultVar} {ts : List TV}, aresults P s l = some ts → ∃ vs : List Value, (l.mapM (resOf a.tmps)).run P w = .ok vs w ∧ All2 (TV.R w (C.N s.heap β w) (C.fresh s.heap β w) β) ts vs
  | [], ts, e => by
    simp only [aresults, Option.some.injEq] at e
    subst e
    exact ⟨[], by simp, trivial⟩
  | x :: l, ts, e => by
    unfold aresults at e
    split at e
    · rename_i t ts' h1 h2
      simp only [Option.some.injEq] at e
      subst e
      obtain ⟨v, e1, r1⟩ := ares1_sound h h1
      obtain ⟨vs, e2, r2⟩ := aresults_sound h h2
      exact ⟨v :: vs, by simp [e1, e2], r1, r2⟩
    · simp at e

theorem results_run {fn : Func} {tmps : Array Value} {vs : List Value} (e : (fn.results.toList.mapM (resOf tmps)).run P w = .ok vs w) :
    (results fn tmps).run P w = .ok (if h : vs.toArray.size = 1 then vs.toArray[0] else .tuple vs.toArray) w := by
  have hr : results fn tmps = (do
      let vs ← fn.results.mapM (resOf tmps)
      pure (if h : vs.size = 1 then vs[0] else .tuple vs)) := by
    unfold results
    congr 1
  rw [hr, Array.mapM_eq_mapM_toList]
  simp [e]
end

/-! ### contracts in a row -/
def lookF.{u} {α : Type u} : List (FuncId × α) → FuncId → Option α
  | [], _ => none
  | p :: r, f => if f = p.1 then some p.2 else lookF r f

def envOf (l : List (FuncId × CS)) (m : List (FuncId × HD) := []) (imm : List Nat := []) (inl : List (FuncId × ID) := []) : Env := ⟨lookF l, lookF m, imm, lookF inl, []⟩

def CSs (P : Program) (l : List (FuncId × CS)) : Prop := ∀ f c, lookF l f = some c → c.Sound P f
def HDs (P : Program) (l : List (FuncId × HD)) : Prop := ∀ f c, lookF l f = some c → c.Sound P f
def IDs (P : Program) (l : List (FuncId × ID)) : Prop := ∀ f c, lookF l f = some c → c.Sound P f

theorem CSs.nil {P : Program} : CSs P [] := fun f c h => by simp [lookF] at h
theorem CSs.cons {P : Program} {f : FuncId} {c : CS} {r : List (FuncId × CS)} (h : c.Sound P f) (hr : CSs P r) : CSs P ((f, c) :: r) := fun g d e => by
  simp only [lookF] at e
  split at e
  · rename_i hg; subst hg; cases e; exact h
  · exact hr g d e
theorem HDs.nil {P : Program} : HDs P [] := fun f c h => by simp [lookF] at h
theorem HDs.cons {P : Program} {f : FuncId} {c : HD} {r : List (FuncId × HD)} (h : c.Sound P f) (hr : HDs P r) : HDs P ((f, c) :: r) := fun g d e => by
  simp only [lookF] at e
  split at e
  · rename_i hg; subst hg; cases e; exact h
  · exact hr g d e
theorem IDs.nil {P : Program} : IDs P [] := fun f c h => by simp [lookF] at h
theorem IDs.cons {P : Program} {f : FuncId} {c : ID} {r : List (FuncId × ID)} (h : c.Sound P f) (hr : IDs P r) : IDs P ((f, c) :: r) := fun g d e => by
  unfold lookF at e
  split at e
  · rename_i hg; subst hg; simp only [Option.some.injEq] at e; subst e; exact h
  · exact hr g d e
theorem envOf_sound {P : Program} {l : List (FuncId × CS)} {m : List (FuncId × HD)} {imm : List Nat} {inl : List (FuncId × ID)} (h : CSs P l) (k : HDs P m) (i : IDs P inl) : (envOf l m imm inl).Sound P := ⟨h, k, i⟩

/-! ### a function -/
def aargs : (ps : List (Bool × K)) → PDen ps → List TV
  | [], _ => []
  | p :: ps, x => ((shapeTV p.1 (p.2.cells false x.1)).getD (.one .junk)) :: aargs ps x.2

def afin (P : Program) (fn : Func) (rs : List (Bool × K)) (share : Bool) (s : AS) : Option (PDen rs) :=
  if nodupN s.marks = true then match aresults P s.out fn.results.toList with
    | some ts => match adec s.out.heap true rs ts with
      | some (y, f) => if (share || f) = true then some y else none
      | none => none
    | none => none
  else none

/-- What a function comes to, for data. -/
noncomputable def afun (P : Program) (Γ : Env) (an : Ann) (fn : Func) (ps rs : List (Bool × K)) (share : Bool) (x : PDen ps) : Option (PDen rs) :=
  match fn.body with
  | none => none
  | some c => arun P Γ an c (PDen rs) none 0 { tmps := aargs ps x ++ List.replicate (fn.ntmps - ps.length) undefTV, heap := [], marks := [] }
      { norm := afin P fn rs share, exit := fun _ _ => none, ret := afin P fn rs share }

section
variable {P : Program} {Γ : Env}

theorem aargs_R {w : World} {N Nf : Nat → Prop} : ∀ {ps : List (Bool × K)} {x : PDen ps} {vs : List Value}, argsR w N ps x vs → All2 (TV.R w N Nf []) (aargs ps x) vs
  | [], _, _, h => by simp [argsR] at h; subst h; trivial
  | (agg, k) :: ps, x, _, ⟨v, vs', rfl, h1, h2⟩ => by
    refine ⟨?_, aargs_R h2⟩
    cases agg with
    | true =>
      obtain ⟨cs, rfl, h1⟩ := h1
      exact ⟨cs, rfl, K.cells_R (N := N) (Nf := Nf) false k _ _ h1⟩
    | false =>
      have h1 : k.rd w N x.1 [v] := h1
      have hc := K.cells_R (N := N) (Nf := Nf) (β := []) false k _ _ h1
      show TV.R w N Nf [] ((shapeTV false (K.cells false k x.1)).getD (.one .junk)) v
      generalize K.cells false k x.1 = cc at hc ⊢
      match cc, hc with
      | [c], hc => exact hc.1

theorem All2.len' {α β : Type} {R : α → β → Prop} : ∀ {l : List α} {m : List β}, All2 R l m → l.length = m.length
  | [], [], _ => rfl
  | _ :: _, _ :: _, h => by simp [All2.len' h.2]
  | [], _ :: _, h => h.elim
  | _ :: _, [], h => h.elim

theorem All2.get2 {α β : Type} {R : α → β → Prop} : ∀ {l : List α} {m : List β} {i : Nat} {x : α}, All2 R l m → l[i]? = some x → ∃ y, m[i]? = some y ∧ R x y
  | _ :: _, y :: _, 0, x, h, e => by simp at e; subst e; exact ⟨y, rfl, h.1⟩
  | _ :: _, _ :: _, i + 1, x, h, e => by simpa using All2.get2 h.2 (by simpa using e)
  | [], _, i, x, h, e => by simp at e
  | _ :: _, [], i, x, h, e => h.elim

theorem aargs_len : ∀ {ps : List (Bool × K)} {x : PDen ps}, (aargs ps x).length = ps.length
  | [], _ => rfl
  | _ :: _, _ => by simp [aargs, aargs_len]

theorem resR_of {w : World} {N : Nat → Prop} {rs : List (Bool × K)} {y : PDen rs} {vs : List Value} (h : argsR w N rs y vs) : resR w N rs y (if h : vs.toArray.size = 1 then vs.toArray[0] else .tuple vs.toArray) := by
  match rs, y, h with
  | [], y, h => simp [argsR] at h; subst h; exact ⟨[], rfl, rfl⟩
  | [p], y, ⟨v, vs', e, h1, h2⟩ =>
    simp [argsR] at h2; subst h2; subst e
    exact h1
  | p :: q :: rs, y, h =>
    obtain ⟨v, vs', e, h1, v2, vs2, e2, h3, h4⟩ := h
    subst e2; subst e
    exact ⟨v :: v2 :: vs2, by simp, v, v2 :: vs2, rfl, h1, v2, vs2, rfl, h3, h4⟩

theorem afun_sound (hΓ : Γ.Sound P) (hyl : Γ.yl = []) (hm : P.follows .mixedOrders = true) {an : Ann} {f : FuncId} {fn : Func} (hf : P.funcs[f]? = some fn) (hn : (fn.name == "runtime.NumGoroutine") = false) {ps rs : List (Bool × K)} {share : Bool} {model : PDen ps → Option (PDen rs)}
    {c : Code} (hbody : fn.body = some c) (hmod : ∀ x y, model x = some y → afun P Γ an fn ps rs share x = some y) : (CS.mk ps rs share model).Sound P f := by
  · refine ⟨fun args w => ?_, fun x y hxy w N args hN hargs => ?_⟩
    · have h1 : fn.name ≠ "runtime.NumGoroutine" := by simpa using hn
      simp [callFunc, hf, h1, hbody, mark]
    · have e := hmod x y hxy
      simp only [afun, hbody] at e
      refine callsIn_wide.1 (callsIn_of_wp_marks (n := 5) hf hbody trivial ?_)
      have hA := aargs_R (Nf := fun b => w.heap.size ≤ b ∧ b < w.heap.size ∧ Free [] [] b) hargs
      have hlen : args.length = ps.length := by rw [← All2.len' hA, aargs_len]
      have hN' : ∀ b, N b → Cx.N ⟨w, N, fun _ => False, []⟩ [] [] w b := fun b hb => ⟨.inl hb, hN b hb, fun l o r h => by simp at h⟩
      have hrel : Rel ⟨w, N, fun _ => False, []⟩ { tmps := aargs ps x ++ List.replicate (fn.ntmps - ps.length) undefTV, heap := [], marks := [] } []
          { tmps := args.toArray ++ Array.replicate (fn.ntmps - args.toArray.size) undef, defers := [] } w := by
        refine { defers := ⟨[], rfl, trivial⟩, tsize := ?_, tm := ?_, bsize := rfl, ob := fun l o r h => by simp at h, occ := fun l o r b h => by simp at h, apart := fun l l' o o' r r' b h => by simp at h, keep := Kept.refl _ _, frs := fun f hf => by simp at hf }
        · simp [aargs_len, hlen]
        · intro i t hi
          by_cases hl : i < ps.length
          · have hi : (aargs ps x ++ List.replicate (fn.ntmps - ps.length) undefTV)[i]? = some t := hi
            rw [List.getElem?_append_left (by rw [aargs_len]; exact hl)] at hi
            obtain ⟨v, hv, hR⟩ := All2.get2 hA hi
            have : (args.toArray ++ Array.replicate (fn.ntmps - args.toArray.size) undef).getD i undef = v := by
              rw [Array.getD_eq_getD_getElem?, Array.getElem?_append_left (by simpa [hlen] using hl)]
              simp [hv]
            show t.R w _ _ _ _
            rw [this]
            exact TV.R_mono (AV.R_mono (fun _ _ => rfl) hN' (fun b hb => by have h1 : w.heap.size ≤ b := hb.1; have h2 : b < w.heap.size := hb.2.1; omega) (fun b hb => hb) (fun _ _ h => h)) _ _ hR
          · have hi : (aargs ps x ++ List.replicate (fn.ntmps - ps.length) undefTV)[i]? = some t := hi
            rw [List.getElem?_append_right (by rw [aargs_len]; omega), aargs_len, List.getElem?_replicate] at hi
            split at hi
            · cases hi
              have : (args.toArray ++ Array.replicate (fn.ntmps - args.toArray.size) undef).getD i undef = undef := by
                rw [Array.getD_eq_getD_getElem?, Array.getElem?_append_right (by simpa [hlen] using hl)]
                simp [Array.getElem?_replicate]
                split <;> rfl
              show undefTV.R w _ _ _ _
              rw [this]
              exact undefTV_R
            · simp at hi
      have fin : ∀ (s' : AS) (β' : List Bl) (a' : Act) (w' : World), afin P fn rs share s' = some y → Rel ⟨w, N, fun _ => False, []⟩ s' β' a' w' →
          LeavesInM Fence.wide 5 P fn a'.tmps (fun e w' => ∃ v, e = .returned v ∧ Grew w w' ∧ resR w' (fun b => (share = true ∧ N b) ∨ (w.heap.size ≤ b ∧ b < w'.heap.size)) rs y v) a'.defers .returning w' := by
        intro s' β' a' w' hfin h
        unfold afin at hfin
        split at hfin
        rotate_left
        · simp at hfin
        rename_i hnd
        refine leave s'.marks s' a' w' h rfl hnd (fun l _ f hf => by simp at hf) fun a2 w2 h2 ht => ?_
        split at hfin
        rotate_left
        · simp at hfin
        rename_i ts hts
        split at hfin
        rotate_left
        · simp at hfin
        rename_i y' f hd
        split at hfin
        rotate_left
        · simp at hfin
        rename_i hsf
        simp only [Option.some.injEq] at hfin
        subst hfin
        obtain ⟨vs, e1, e2⟩ := aresults_sound h2 hts
        rw [ht] at e1
        refine ⟨_, results_run e1, _, rfl, ⟨h2.keep.os, h2.keep.tape, h2.keep.output, h2.keep.size, fun b hb => h2.keep.block b hb id⟩, ?_⟩
        refine resR_of (argsR_mono (fun _ _ => rfl) (fun b hb => ?_) (adec_sound h2 e2 hd))
        cases f with
        | true =>
          have hb : AnyF _ w2 b := hb
          exact .inr ⟨hb.1.resolve_right id, hb.2⟩
        | false =>
          have hb : Any _ w2 b := hb
          simp at hsf
          rcases hb.1 with h | h | h
          · exact .inl ⟨hsf, h⟩
          · exact .inr ⟨h, hb.2⟩
          · exact h.elim
      refine wpIn_mono (arun_sound hΓ hm c _ none 0 _ _ y e Fence.wide 5 _ [] _ w (.inl rfl) rfl (by rw [hyl]; exact YOK.nil _ _ _) hrel) fun ex a' w' ⟨s', β', h1, h2, _⟩ => ?_
      cases ex with
      | normal => exact fin s' β' a' w' h1 h2
      | ret => exact fin s' β' a' w' h1 h2
      | exit i => simp [Kt.at] at h1
      | goto _ => simp [Kt.at] at h1
      | panic _ => simp [Kt.at] at h1
      | outgrown => simp [Kt.at] at h1
end
end Go.Proofs.AM
