/- A function that is entered in place. -/
import Derived.Test.YtefekolpfklhdaaAmA28
set_option maxRecDepth 2000
set_option linter.unusedVariables false
set_option linter.unusedSimpArgs false
namespace Go.Proofs.AM
open Go Go.RowKit

def compOf : TV → Option (Bool × List AV)
  | .one a => some (false, [a])
  | .agg cs => some (true, cs)
  | .tup _ => none

def compsOf : List TV → Option (List (Bool × List AV))
  | [] => some []
  | t :: ts => match compOf t, compsOf ts with
    | some c, some cs => some (c :: cs)
    | _, _ => none

/-- Results, as a caller meets them. -/
def joinTV : List TV → Option TV
  | [t] => some t
  | ts => match compsOf ts with
    | some cs => some (.tup cs)
    | none => none

def afinI {R : Type} (P : Program) (fn : Func) (k : Heap → TV → Option R) (s : AS) : Option R := match aresults P s fn.results.toList with
  | some ts => match joinTV ts with
    | some tv => k s.heap tv
    | none => none
  | none => none

/-- A function's body, carried out in place. -/
noncomputable def aInl (P : Program) (Γ : Env) (an : Ann) (fn : Func) : ID where
  run Y R h ts k := match fn.body with
    | none => none
    | some c => if ts.length ≤ fn.ntmps then arun P { Γ with yl := Y } an c R none 0 { tmps := ts ++ List.replicate (fn.ntmps - ts.length) undefTV, heap := h, marks := [] }
        { norm := aendI h.length (afinI P fn k), exit := fun _ _ => none, ret := aendI h.length (afinI P fn k) }
      else none

section
variable {P : Program} {Γ : Env}

theorem compsOf_R {w : World} {N Nf : Nat → Prop} {β : List Bl} : ∀ {ts : List TV} {vs : List Value} {cs : List (Bool × List AV)}, All2 (TV.R w N Nf β) ts vs → compsOf ts = some cs → All2 (compR w N Nf β) cs vs
  | [], [], cs, _, e => by simp [compsOf] at e; subst e; trivial
  | t :: ts, v :: vs, cs, h, e => by
    unfold compsOf at e
    split at e
    rotate_left
    · simp at e
    rename_i c cs' h1 h2
    simp only [Option.some.injEq] at e
    subst e
    refine ⟨?_, compsOf_R h.2 h2⟩
    have ht := h.1
    cases t with
    | one a => simp [compOf] at h1; subst h1; exact ht
    | agg l => simp [compOf] at h1; subst h1; exact ht
    | tup l => simp [compOf] at h1
  | [], _ :: _, _, h, _ => h.elim
  | _ :: _, [], _, h, _ => h.elim

theorem joinTV_R {w : World} {N Nf : Nat → Prop} {β : List Bl} {ts : List TV} {vs : List Value} {tv : TV} (h : All2 (TV.R w N Nf β) ts vs) (e : joinTV ts = some tv) : tv.R w N Nf β (if h : vs.toArray.size = 1 then vs.toArray[0] else .tuple vs.toArray) := by
  unfold joinTV at e
  split at e
  · rename_i t
    match vs, h with
    | [v], h =>
      simp only [Option.some.injEq] at e; subst e
      exact h.1
  · rename_i hne
    split at e
    rotate_left
    · simp at e
    rename_i cs hcs
    simp only [Option.some.injEq] at e; subst e
    have hl := All2.len h
    have : ¬ vs.toArray.size = 1 := fun h1 => by
      have h1 : vs.length = 1 := by simpa using h1
      rw [← hl] at h1
      match ts, h1 with
      | [t], _ => exact hne t rfl
    rw [dif_neg this]
    exact ⟨vs, rfl, compsOf_R h hcs⟩

theorem aInl_sound (hΓ : Γ.Sound P) (hm : P.follows .mixedOrders = true) {an : Ann} {f : FuncId} {fn : Func} (hf : P.funcs[f]? = some fn) (hn : (fn.name == "runtime.NumGoroutine") = false) {c : Code} (hbody : fn.body = some c) : (aInl P Γ an fn).Sound P f := by
  refine ⟨fun args w => ?_, fun C β Y R ts k r s e a w vs hY h hts => ?_⟩
  · have h1 : fn.name ≠ "runtime.NumGoroutine" := by simpa using hn
    simp [callFunc, hf, h1, hbody, mark]
  · simp only [aInl, hbody] at e
    split at e
    rotate_left
    · simp at e
    rename_i hle
    have hlen := All2.len hts
    have hΓ' : ({ Γ with yl := Y } : Env).Sound P := ⟨hΓ.cs, hΓ.hd, hΓ.inl⟩
    have h0 : Rel (C.push s a) { tmps := ts ++ List.replicate (fn.ntmps - ts.length) undefTV, heap := s.heap, marks := [] } β { tmps := vs.toArray ++ Array.replicate (fn.ntmps - vs.toArray.size) undef, defers := [] } w := by
      refine h.enter (by simp [hlen]) fun i t ht => ?_
      by_cases hi : i < ts.length
      · rw [List.getElem?_append_left hi] at ht
        obtain ⟨v, hv, hR⟩ := hts.get ht
        have : (vs.toArray ++ Array.replicate (fn.ntmps - vs.toArray.size) undef).getD i undef = v := by
          rw [Array.getD_eq_getD_getElem?, Array.getElem?_append_left (by simpa [← hlen] using hi)]
          simp [hv]
        rw [this]; exact hR
      · rw [List.getElem?_append_right (by omega), List.getElem?_replicate] at ht
        split at ht
        · cases ht
          have : (vs.toArray ++ Array.replicate (fn.ntmps - vs.toArray.size) undef).getD i undef = undef := by
            rw [Array.getD_eq_getD_getElem?, Array.getElem?_append_right (by simpa [← hlen] using hi)]
            simp [Array.getElem?_replicate]
            split <;> rfl
          rw [this]; exact undefTV_R
        · simp at ht
    have hmk : ∀ f ∈ (C.push s a).frs, ∀ l ∈ f.marks, l < s.heap.length := by
      intro f hf l hl
      have := h0.mark_all (.inr ⟨f, hf, hl⟩)
      exact (List.getElem?_eq_some_iff.1 this).1
    refine (body_coreI (Γ := { Γ with yl := Y }) hΓ' hm hf hbody h0 s.heap.length hmk (Nat.le_refl _) hY e (S := fun v w' => CallPost C s β a k r (.returned v) w') ?_).mono ?_
    · intro s2 β2 a2 w2 hG h2 hg
      unfold afinI at hG
      split at hG
      rotate_left
      · simp at hG
      rename_i ts' hts'
      split at hG
      rotate_left
      · simp at hG
      rename_i tv htv
      obtain ⟨us, e1, e2⟩ := aresults_sound h2 hts'
      exact ⟨_, results_run e1, _, s2.heap, tv, β2, rfl, hG, h2.back, joinTV_R e2 htv, hg⟩
    · rintro e' w' ⟨v, rfl, hS⟩
      exact hS

theorem afun_sound' (hΓ : Γ.Sound P) (hyl : Γ.yl = []) (hm : P.follows .mixedOrders = true) {an : Ann} {f : FuncId} {fn : Func} (hf : P.funcs[f]? = some fn) (hn : (fn.name == "runtime.NumGoroutine") = false) (hbody : fn.body.isSome = true) {ps rs : List (Bool × K)} {share : Bool}
    {model : PDen ps → Option (PDen rs)} (hmod : (fun x => afun P Γ an fn ps rs share x) = model) : (CS.mk ps rs share model).Sound P f := by
  obtain ⟨c, hc⟩ := Option.isSome_iff_exists.1 hbody
  exact afun_sound hΓ hyl hm hf hn hc (fun x y h => by rw [← hmod] at h; exact h)

theorem afunO_sound' (hΓ : Γ.Sound P) (hyl : Γ.yl = []) (hm : P.follows .mixedOrders = true) {an : Ann} {f : FuncId} {fn : Func} (hf : P.funcs[f]? = some fn) (hn : (fn.name == "runtime.NumGoroutine") = false) (hbody : fn.body.isSome = true) {ps : List (Bool × K)} {T : TypeId} {k : K} {share : Bool}
    {model : PDen ps → Option (List k.den)} (hmod : (fun x => afunO P Γ an fn ps T k share x) = model) : (OS.mk ps T k share model).Sound P f := by
  obtain ⟨c, hc⟩ := Option.isSome_iff_exists.1 hbody
  exact afunO_sound hΓ hyl hm hf hn hc (fun x y h => by rw [← hmod] at h; exact h)

theorem aInl_sound' (hΓ : Γ.Sound P) (hm : P.follows .mixedOrders = true) {an : Ann} {f : FuncId} {fn : Func} (hf : P.funcs[f]? = some fn) (hn : (fn.name == "runtime.NumGoroutine") = false) (hbody : fn.body.isSome = true) : (aInl P Γ an fn).Sound P f := by
  obtain ⟨c, hc⟩ := Option.isSome_iff_exists.1 hbody
  exact aInl_sound hΓ hm hf hn hc
end
end Go.Proofs.AM
