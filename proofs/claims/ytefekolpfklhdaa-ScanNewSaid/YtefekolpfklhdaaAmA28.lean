/- A function that hands out a row of cells of its own. -/
import Derived.Test.YtefekolpfklhdaaAmA27
set_option maxRecDepth 2000
set_option linter.unusedVariables false
set_option linter.unusedSimpArgs false
namespace Go.Proofs.AM
open Go Go.RowKit

section
variable {P : Program} {Γ : Env}

/-- How a function ends. -/
def aend {R : Type} (G : AS → Option R) (s : AS) : Option R := if nodupN s.marks = true then G s.out else none

/-- How a function ends that is entered in place: its marks lie behind what there was. -/
def aendI {R : Type} (n0 : Nat) (G : AS → Option R) (s : AS) : Option R := if (nodupN s.marks && s.marks.all fun l => decide (n0 ≤ l)) = true then G s.out else none

theorem killMarks_len : ∀ (ms : List Nat) (h : Heap), (killMarks h ms).length = h.length
  | [], _ => rfl
  | m :: ms, h => by
    show (killMarks (h.set m (true, .dead)) ms).length = _
    rw [killMarks_len ms]; simp

theorem killMarks_get {l : Nat} : ∀ (ms : List Nat) (h : Heap), l ∉ ms → (killMarks h ms)[l]? = h[l]?
  | [], _, _ => rfl
  | m :: ms, h, hl => by
    show (killMarks (h.set m (true, .dead)) ms)[l]? = _
    rw [killMarks_get ms _ (fun hh => hl (by simp [hh])), List.getElem?_set_ne (fun e => hl (by simp [e]))]

/-- A body's walk, whatever is read off at its end. -/
theorem body_coreI (hΓ : Γ.Sound P) (hm : P.follows .mixedOrders = true) {an : Ann} {f : FuncId} {fn : Func} (hf : P.funcs[f]? = some fn) {c : Code} (hbody : fn.body = some c) {R : Type} {G : AS → Option R} {y : R}
    {C : Cx} {s0 : AS} {β0 : List Bl} {args : Array Value} {w : World} (h : Rel C s0 β0 { tmps := args ++ Array.replicate (fn.ntmps - args.size) undef, defers := [] } w) (n0 : Nat) (hn0 : ∀ f ∈ C.frs, ∀ l ∈ f.marks, l < n0) (hn1 : s0.heap.length ≤ n0)
    (hY : YOK P C β0 Γ.yl) (e : arun P Γ an c R none 0 s0 { norm := aendI n0 G, exit := fun _ _ => none, ret := aendI n0 G } = some y)
    {S : Value → World → Prop} (hG : ∀ s β a w', G s = some y → Rel C s β a w' → Grown s0.heap s.heap β0 β → ∃ v, (results fn a.tmps).run P w' = .ok v w' ∧ S v w') :
    Calls P f args w fun e w' => ∃ v, e = .returned v ∧ S v w' := by
  refine callsIn_wide.1 (callsIn_of_wp_marks (n := 5) hf hbody trivial ?_)
  have fin : ∀ (s' : AS) (β' : List Bl) (a' : Act) (w' : World), aendI n0 G s' = some y → Rel C s' β' a' w' → Grown s0.heap s'.heap β0 β' →
      LeavesInM Fence.wide 5 P fn a'.tmps (fun e w' => ∃ v, e = .returned v ∧ S v w') a'.defers .returning w' := by
    intro s' β' a' w' hfin h hb
    unfold aendI at hfin
    split at hfin
    rotate_left
    · simp at hfin
    rename_i hnd
    simp only [Bool.and_eq_true, List.all_eq_true, decide_eq_true_eq] at hnd
    refine leave s'.marks s' a' w' h rfl hnd.1 (fun l hl f hf hlf => by have := hnd.2 l hl; have := hn0 f hf l hlf; omega) fun a2 w2 h2 ht => ?_
    have hb2 : Grown s0.heap s'.out.heap β0 β' := by
      have nm : ∀ l, l < s0.heap.length → l ∉ s'.marks := fun l hl hm => by have := hnd.2 l hm; omega
      refine ⟨hb.bx, by show _ ≤ (killMarks _ _).length; rw [killMarks_len]; exact hb.hl, fun l o hl ho => ?_, fun l hl => ?_⟩
      · have ho : (killMarks s'.heap s'.marks)[l]? = some (false, o) := ho
        rw [killMarks_get _ _ (nm l hl)] at ho
        exact hb.hp l o hl ho
      · show (killMarks s'.heap s'.marks)[l]? = _
        rw [killMarks_get _ _ (nm l (List.getElem?_eq_some_iff.1 hl).1)]
        exact hb.hm l hl
    obtain ⟨v, e1, e2⟩ := hG _ _ _ _ hfin h2 hb2
    rw [ht] at e1
    exact ⟨v, e1, v, rfl, e2⟩
  refine wpIn_mono (arun_sound hΓ hm c _ none 0 _ _ y e Fence.wide 5 C β0 _ w (.inl rfl) rfl hY h) fun ex a' w' ⟨s', β', h1, h2, h3⟩ => ?_
  cases ex with
  | normal => exact fin s' β' a' w' h1 h2 ⟨h3.bx, h3.hl, h3.hp, h3.hm⟩
  | ret => exact fin s' β' a' w' h1 h2 ⟨h3.bx, h3.hl, h3.hp, h3.hm⟩
  | exit i => simp [Kt.at] at h1
  | goto _ => simp [Kt.at] at h1
  | panic _ => simp [Kt.at] at h1
  | outgrown => simp [Kt.at] at h1

theorem body_core (hΓ : Γ.Sound P) (hm : P.follows .mixedOrders = true) {an : Ann} {f : FuncId} {fn : Func} (hf : P.funcs[f]? = some fn) {c : Code} (hbody : fn.body = some c) {R : Type} {G : AS → Option R} {y : R}
    {C : Cx} {s0 : AS} {β0 : List Bl} {args : Array Value} {w : World} (h : Rel C s0 β0 { tmps := args ++ Array.replicate (fn.ntmps - args.size) undef, defers := [] } w) (hfrs : C.frs = []) (hh : s0.heap = []) (hyl : Γ.yl = [])
    (e : arun P Γ an c R none 0 s0 { norm := aend G, exit := fun _ _ => none, ret := aend G } = some y)
    {S : Value → World → Prop} (hG : ∀ s β a w', G s = some y → Rel C s β a w' → Grown s0.heap s.heap β0 β → ∃ v, (results fn a.tmps).run P w' = .ok v w' ∧ S v w') :
    Calls P f args w fun e w' => ∃ v, e = .returned v ∧ S v w' := by
  have he : aendI (R := R) 0 G = aend G := by funext s; simp [aendI, aend]
  exact body_coreI hΓ hm hf hbody h 0 (by simp [hfrs]) (by simp [hh]) (by rw [hyl]; exact YOK.nil _ _ _) (by rw [he]; exact e) hG

def ainit (fn : Func) (ps : List (Bool × K)) (x : PDen ps) : AS := { tmps := aargs ps x ++ List.replicate (fn.ntmps - ps.length) undefTV, heap := [], marks := [] }

theorem init_rel {fn : Func} {ps : List (Bool × K)} {x : PDen ps} {w : World} {N : Nat → Prop} {args : List Value} (hN : ∀ b, N b → b < w.heap.size) (hargs : argsR w N ps x args) :
    Rel ⟨w, N, fun _ => False, []⟩ (ainit fn ps x) [] { tmps := args.toArray ++ Array.replicate (fn.ntmps - args.toArray.size) undef, defers := [] } w := by
  have hA := aargs_R (Nf := fun b => w.heap.size ≤ b ∧ b < w.heap.size ∧ Free [] [] b) hargs
  have hlen : args.length = ps.length := by rw [← All2.len' hA, aargs_len]
  have hN' : ∀ b, N b → Cx.N ⟨w, N, fun _ => False, []⟩ [] [] w b := fun b hb => ⟨.inl hb, hN b hb, fun l o r h => by simp at h⟩
  refine { defers := ⟨[], rfl, trivial⟩, tsize := ?_, tm := ?_, bsize := rfl, ob := fun l o r h => by simp [ainit] at h, occ := fun l o r b h => by simp [ainit] at h, apart := fun l l' o o' r r' b h => by simp [ainit] at h, keep := Kept.refl _ _, frs := fun f hf => by simp at hf }
  · simp [ainit, aargs_len, hlen]
  · intro i t hi
    by_cases hl : i < ps.length
    · have hi : (aargs ps x ++ List.replicate (fn.ntmps - ps.length) undefTV)[i]? = some t := hi
      rw [List.getElem?_append_left (by rw [aargs_len]; exact hl)] at hi
      obtain ⟨v, hv, hR⟩ := All2.get2 hA hi
      have : (args.toArray ++ Array.replicate (fn.ntmps - args.toArray.size) undef).getD i undef = v := by
        rw [Array.getD_eq_getD_getElem?, Array.getElem?_append_left (by simpa [hlen] using hl)]
        simp [hv]
      show t.R w _ _ _ _
      rw [this]
      exact TV.R_mono (AV.R_mono (fun _ _ => rfl) hN' (fun b hb => by have h1 : w.heap.size ≤ b := hb.1; have h2 : b < w.heap.size := hb.2.1; omega) (fun b hb => hb) (fun _ _ h => h)) _ _ hR
    · have hi : (aargs ps x ++ List.replicate (fn.ntmps - ps.length) undefTV)[i]? = some t := hi
      rw [List.getElem?_append_right (by rw [aargs_len]; omega), aargs_len, List.getElem?_replicate] at hi
      split at hi
      · cases hi
        have : (args.toArray ++ Array.replicate (fn.ntmps - args.toArray.size) undef).getD i undef = undef := by
          rw [Array.getD_eq_getD_getElem?, Array.getElem?_append_right (by simpa [hlen] using hl)]
          simp [Array.getElem?_replicate]
          split <;> rfl
        show undefTV.R w _ _ _ _
        rw [this]
        exact undefTV_R
      · simp at hi

/-! ### a row of cells of its own -/
/-- What a value says of such a row. -/
def ownR (w w' : World) (N : Nat → Prop) (T : TypeId) (k : K) (xs : List k.den) (v : Value) : Prop :=
  ∃ r A c, v = .slice A r.n c ∧ r.n ≤ c ∧ r.slice A 0 r.n c ∧ (r.real = true → w.heap.size ≤ r.blk ∧ r.blk < w'.heap.size) ∧
    (AObj.vec T k xs false).R w' (fun b => N b ∧ ¬ (r.real = true ∧ b = r.blk)) (fun b => N b ∧ ¬ (r.real = true ∧ b = r.blk)) [] r

structure OS where
  ps : List (Bool × K)
  T : TypeId
  k : K
  share : Bool
  model : PDen ps → Option (List k.den)

def OS.Sound (P : Program) (f : FuncId) (c : OS) : Prop :=
  (∀ args w, (callFunc f args).run P w = .ok (.enter f args) w) ∧
  ∀ (x : PDen c.ps) (y : List c.k.den), c.model x = some y → ∀ (w : World) (N : Nat → Prop) (args : List Value), (∀ b, N b → b < w.heap.size) → argsR w N c.ps x args →
    Calls P f args.toArray w fun e w' => ∃ v, e = .returned v ∧ Grew w w' ∧ ownR w w' (fun b => (c.share = true ∧ N b) ∨ (w.heap.size ≤ b ∧ b < w'.heap.size)) c.T c.k y v

def afinO (P : Program) (fn : Func) (T : TypeId) (k : K) (share : Bool) (s : AS) : Option (List k.den) :=
  match aresults P s fn.results.toList with
  | some [.one a] => match decV s.heap T k (!share) a with
    | some (xs, _) => some xs
    | none => none
  | _ => none

noncomputable def afunO (P : Program) (Γ : Env) (an : Ann) (fn : Func) (ps : List (Bool × K)) (T : TypeId) (k : K) (share : Bool) (x : PDen ps) : Option (List k.den) :=
  match fn.body with
  | none => none
  | some c => arun P Γ an c (List k.den) none 0 (ainit fn ps x) { norm := aend (afinO P fn T k share), exit := fun _ _ => none, ret := aend (afinO P fn T k share) }

theorem afunO_sound (hΓ : Γ.Sound P) (hyl : Γ.yl = []) (hm : P.follows .mixedOrders = true) {an : Ann} {f : FuncId} {fn : Func} (hf : P.funcs[f]? = some fn) (hn : (fn.name == "runtime.NumGoroutine") = false) {c : OS} {code : Code} (hbody : fn.body = some code)
    (hmod : ∀ x y, c.model x = some y → afunO P Γ an fn c.ps c.T c.k c.share x = some y) : c.Sound P f := by
  refine ⟨fun args w => ?_, fun x y hxy w N args hN hargs => ?_⟩
  · have h1 : fn.name ≠ "runtime.NumGoroutine" := by simpa using hn
    simp [callFunc, hf, h1, hbody, mark]
  · have e := hmod x y hxy
    simp only [afunO, hbody] at e
    refine (body_core hΓ hm hf hbody (init_rel hN hargs) rfl rfl hyl e (S := fun v w' => Grew w w' ∧ ownR w w' (fun b => (c.share = true ∧ N b) ∨ (w.heap.size ≤ b ∧ b < w'.heap.size)) c.T c.k y v) ?_)
    intro s β a w' hG h _
    unfold afinO at hG
    split at hG
    rotate_left
    · simp at hG
    rename_i av hts
    obtain ⟨vs, e1, e2⟩ := aresults_sound h hts
    match vs, e2 with
    | [v], e2 =>
      refine ⟨v, by simpa using results_run e1, ⟨h.keep.os, h.keep.tape, h.keep.output, h.keep.size, fun b hb => h.keep.block b hb id⟩, ?_⟩
      have hv : av.R w' _ _ β v := e2.1
      split at hG
      rotate_left
      · simp at hG
      rename_i xs l hd
      simp only [Option.some.injEq] at hG
      subst hG
      rcases decV_some hd with ⟨rfl, rfl, rfl⟩ | ⟨m, fl, rfl, rfl, ho, hfl⟩
      · have hv : v = .slice none 0 0 := hv
        subst hv
        exact ⟨⟨0, 0, c.k.size, 0, 0, false, none⟩, none, 0, rfl, Nat.le_refl _, .inr ⟨rfl, rfl⟩, fun h => by simp at h, rfl, rfl, Nat.le_refl _, rfl⟩
      · obtain ⟨ff, r, g1, g2, g3, g4, g5, g6⟩ := h.obj ho (by simp)
        obtain ⟨r', A, cc, q1, q2, q3, q4⟩ := hv
        rw [g2] at q1; cases q1
        refine ⟨r, A, cc, q2, q3, q4, fun hreal => ?_, g3, g4, g5, ?_⟩
        · have := h.occ m _ r r.blk g1 g2 (by simp [AObj.occ, hreal])
          exact ⟨this.2.resolve_right id, this.1⟩
        · by_cases hreal : r.real = true
          · simp only [hreal, if_true] at g6 ⊢
            obtain ⟨pre, mid, post, hh, hp, hrow, hcap⟩ := g6
            refine ⟨pre, mid, post, hh, hp, rows_weak (fun _ _ => rfl) (fun b hb => ?_) hrow, hcap⟩
            have key : (w.heap.size ≤ b ∨ (c.share = true ∧ N b)) ∧ b < w'.heap.size ∧ Free s.heap β b := by
              cases fl with
              | true => exact ⟨.inl hb.1, hb.2.1, hb.2.2⟩
              | false =>
                have hs : c.share = true := by
                  cases hsh : c.share with
                  | true => rfl
                  | false => have := hfl (by simp [hsh]); simp at this
                rcases hb.1 with h1 | h1
                · exact ⟨.inr ⟨hs, h1⟩, hb.2.1, hb.2.2⟩
                · exact ⟨.inl h1, hb.2.1, hb.2.2⟩
            refine ⟨?_, fun ⟨_, hbb⟩ => key.2.2 m _ r g1 g2 (by simp [AObj.occ, hreal, hbb])⟩
            rcases key.1 with h1 | h1
            · exact .inr ⟨h1, key.2.1⟩
            · exact .inl h1
          · simp only [hreal] at g6 ⊢
            exact g6

/-- The contract, as a caller meets it. -/
def OS.hd (c : OS) : HD where
  X := PDen c.ps × Bool
  Y := List c.k.den
  dec h ts := adec h (!c.share) c.ps ts
  model x := c.model x.1
  out h _ x y := (h ++ [(true, .vec c.T c.k y (!c.share || x.2))], .one (.vf h.length))
  push := true
  pushes := fun _ _ _ _ _ => ⟨_, rfl⟩

theorem OS.Sound.hd {f : FuncId} {c : OS} (hc : c.Sound P f) : c.hd.Sound P f := by
  refine ⟨hc.1, fun x y hxy C s β a w ts vs h hvs hdec => ?_⟩
  obtain ⟨x, fr⟩ := x
  have hy1 : c.model x = some y := hxy
  have hdec : adec s.heap (!c.share) c.ps ts = some (x, fr) := hdec
  have hargs := adec_sound h hvs hdec
  refine (hc.2 x y hy1 w _ vs (fun b hb => ?_) hargs).mono ?_
  · revert hb; cases c.share <;> cases fr <;> intro hb <;> first | exact hb.2.1 | exact hb.2
  · rintro e' w' ⟨v, rfl, hg, r, A, cc, q1, q2, q3, q4, q5⟩
    have hk := h.keep.size
    obtain ⟨h2, mv⟩ := h.push hg (.vec c.T c.k y (!c.share || fr)) r (fun b hb => by
        simp only [AObj.occ] at hb
        split at hb
        · rename_i hreal
          simp only [List.mem_singleton] at hb; subst hb
          exact q4 hreal
        · simp at hb)
      (fun mv hN hNf => by
        obtain ⟨p1, p2, p3, p4⟩ := q5
        refine ⟨p1, p2, p3, ?_⟩
        by_cases hreal : r.real = true
        · simp only [hreal, if_true] at p4 ⊢
          obtain ⟨pre, mid, post, hh, hp, hrow, hcap⟩ := p4
          refine ⟨pre, mid, post, hh, hp, rows_weak (fun _ _ => rfl) (fun b hb => ?_) hrow, hcap⟩
          obtain ⟨hb, hne⟩ := hb
          have hnew : w.heap.size ≤ b → b < w'.heap.size → C.fresh (s.heap ++ [(true, AObj.vec c.T c.k y (!c.share || fr))]) (β ++ [r]) w' b := fun h1 h2 => by
            refine ⟨by omega, h2, fun l o rr e1 e2 hx => ?_⟩
            by_cases hl : l < s.heap.length
            · rw [List.getElem?_append_left hl] at e1
              rw [List.getElem?_append_left (by rw [h.bsize]; exact hl)] at e2
              have := (h.occ l o rr b e1 e2 hx).1; omega
            · have hl' : l = s.heap.length := by have := (List.getElem?_eq_some_iff.1 e1).1; simp at this; omega
              subst hl'
              have e2' : rr = r := by rw [← h.bsize] at e2; simpa using e2.symm
              subst e2'
              have e1' : o = (true, AObj.vec c.T c.k y (!c.share || fr)) := by simpa using e1.symm
              subst e1'
              simp only [AObj.occ, hreal, if_true, List.mem_singleton] at hx
              exact hne ⟨by first | exact hreal | trivial, hx⟩
          cases hsh : c.share with
          | false =>
            simp only [Bool.not_false, Bool.true_or, if_true]
            rw [hsh] at hnew
            rcases hb with hb | hb
            · rw [hsh] at hb; simp at hb
            · simpa using hnew hb.1 hb.2
          | true =>
            rw [hsh] at hb hnew
            simp only [Bool.not_true, true_and, Bool.false_or] at hb hnew ⊢
            cases fr with
            | true =>
              simp only [if_true]
              rcases hb with hb | hb
              · have := hNf b hb; rw [hsh] at this; simpa using this
              · exact hnew hb.1 hb.2
            | false =>
              simp only [Bool.false_eq_true, if_false]
              rcases hb with hb | hb
              · have := hN b hb; rw [hsh] at this; simpa using this
              · exact Cx.fresh_N (hnew hb.1 hb.2)
        · simp only [hreal] at p4 ⊢
          exact p4)
    refine ⟨v, β ++ [r], rfl, h2, ?_, ⟨⟨[r], rfl⟩, by simp [OS.hd], fun l o hl ho => ?_, fun l hl => get_app hl⟩⟩
    · exact ⟨r, A, cc, by rw [← h.bsize]; simp, q1, q2, q3⟩
    · have ho : (s.heap ++ [(true, AObj.vec c.T c.k y (!c.share || fr))])[l]? = some (false, o) := ho
      rwa [List.getElem?_append_left hl] at ho
end
end Go.Proofs.AM
