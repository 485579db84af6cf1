/- Regions in the order of the text. -/
import Derived.Test.YtefekolpfklhdaaAmA13
import Derived.Laws.Cover3
set_option maxRecDepth 2000
set_option linter.unusedVariables false
set_option linter.unusedSimpArgs false
namespace Go.Proofs.AM
open Go Go.RowKit

def litTV (b : Bool) : TV := .one (.dat .bool b true)

/-- Where an operation's guard stands. -/
def gslot (ops : Array Oper) (j : Nat) : Option Nat := match ops[j]? with
  | some o => o.dst
  | none => none

section
variable {R : Type}

/-- One operation, whether it is carried out or not. -/
def aop (P : Program) (Γ : Env) (ops : Array Oper) (o : Oper) (s : AS) (k : AS → Option R) : Option R :=
  match o.guard with
  | none => astep P Γ s o k
  | some (j, want) => match gslot ops j with
    | none => none
    | some d => match s.tmps[d]? with
      | some (.one (.dat .bool b _)) =>
        cond b (if want = true then astep P Γ (s.put (some d) (litTV true)) o k else k ((s.put (some d) (litTV true)).put o.dst undefTV))
          (if want = true then k ((s.put (some d) (litTV false)).put o.dst undefTV) else astep P Γ (s.put (some d) (litTV false)) o k)
      | some (.tup []) => k (s.put o.dst undefTV)
      | _ => none

/-- A step, where calls may be carried out in place. -/
def astepI (P : Program) (Γ : Env) (s : AS) (o : Oper) (k : AS → Option R) : Option R :=
  match o.op with
  | .call c => match c.callee with
    | .value f => match s.ev f with
      | .one (.fn fid caps) => match Γ.inl fid with
        | some d => d.run Γ.yl R s.heap (c.args.toList.map s.ev ++ caps.map (fun l => .one (.ptr l 0))) (fun h tv => k ({ s with heap := h }.put o.dst tv))
        | none => astep P Γ s o k
      | .one (.yl l) => match lookY Γ.yl l with
        | some H => H R s.heap (c.args.toList.map s.ev) (fun h tv => k ({ s with heap := h }.put o.dst tv))
        | none => none
      | _ => none
    | _ => astep P Γ s o k
  | _ => astep P Γ s o k

/-- The same, where calls may be carried out in place. -/
def aopI (P : Program) (Γ : Env) (ops : Array Oper) (o : Oper) (s : AS) (k : AS → Option R) : Option R :=
  match o.guard with
  | none => astepI P Γ s o k
  | some (j, want) => match gslot ops j with
    | none => none
    | some d => match s.tmps[d]? with
      | some (.one (.dat .bool b _)) =>
        cond b (if want = true then astepI P Γ (s.put (some d) (litTV true)) o k else k ((s.put (some d) (litTV true)).put o.dst undefTV))
          (if want = true then k ((s.put (some d) (litTV false)).put o.dst undefTV) else astepI P Γ (s.put (some d) (litTV false)) o k)
      | some (.tup []) => k (s.put o.dst undefTV)
      | _ => none

open Classical in
/-- What two ways come to, where it is the same. -/
noncomputable def both (a b : Option R) : Option R := if a = b then a else none

theorem both_some {a b : Option R} {r : R} (h : both a b = some r) : a = some r ∧ b = some r := by
  unfold both at h
  split at h
  · rename_i e; exact ⟨h, e ▸ h⟩
  · simp at h

/-- A slice held against nil, of which only the elements are known: it is nil only if it has none. -/
def anil (P : Program) (s : AS) (o : Oper) : Option (Bool × Bool) := match o.op, o.guard with
  | .binOp .eql t x (.const (.slice none 0 0)) _, none => match aelem P t, s.ev x with
    | some _, .one (.dat (.sl _) xs _) => some (decide ((List.length xs : Int) = 0), false)
    | _, _ => none
  | .binOp .neq t x (.const (.slice none 0 0)) _, none => match aelem P t, s.ev x with
    | some _, .one (.dat (.sl _) xs _) => some (decide ((List.length xs : Int) = 0), true)
    | _, _ => none
  | _, _ => none

noncomputable def aops (P : Program) (Γ : Env) (ops : Array Oper) : List Oper → AS → (AS → Option R) → Option R
  | [], s, k => k s
  | o :: l, s, k => match anil P s o with
    | some (e, n) => both (aops P Γ ops l (s.put o.dst (.one (.dat .bool (cond n (!e) e) true))) k) (aops P Γ ops l (s.put o.dst (.one (.dat .bool n true))) k)
    | none => aopI P Γ ops o s fun s' => aops P Γ ops l s' k
end

section
variable {P : Program} {C : Cx} {s : AS} {β : List Bl} {a : Act} {w : World} {R : Type} {k : AS → Option R} {r : R} {F : Fence} {n : Nat} {Q : Exit → Act → World → Prop} {o : Oper}

/-- What one operation of a region comes to, carried out or not. -/
def OpOK (F : Fence) (n : Nat) (P : Program) (ops : Array Oper) (o : Oper) (a : Act) (w : World) (K : Act → World → Prop) (Q : Exit → Act → World → Prop) : Prop :=
  if Region.wanted o (yielded ops a.tmps) then o.wpIn F n P a w K Q else K (a.put o.dst undef) w

theorem Rel.lit (h : Rel C s β a w) {d : Nat} {b f : Bool} (e : s.tmps[d]? = some (.one (.dat .bool b f))) : Rel C (s.put (some d) (litTV b)) β a w ∧ a.tmps.getD d undef = .bool b := by
  have hv : a.tmps.getD d undef = .bool b := by simpa [TV.R, AV.R, K.rd] using h.tm d _ e
  have hl := (List.getElem?_eq_some_iff.1 e).1
  have := h.put (some d) (litTV b) (.bool b) (by simp [litTV, TV.R, AV.R, K.rd])
  refine ⟨?_, hv⟩
  have hsame : a.put (some d) (.bool b) = a := by
    have hd : d < a.tmps.size := by rw [h.tsize]; exact hl
    have : a.tmps.setIfInBounds d (.bool b) = a.tmps := by
      apply Array.ext
      · simp
      · intro i h1 h2
        rw [Array.getElem_setIfInBounds h2]
        split
        · rename_i hi; subst hi
          rw [← hv]; simp [hd]
        · rfl
    simp [Act.put, this]
  rwa [hsame] at this

theorem aop_sound (hF : FW F) {Γ : Env} (hΓ : Γ.Sound P) (h : Rel C s β a w) {ops : Array Oper} (e : aop P Γ ops o s k = some r) :
    OpOK F n P ops o a w (After C s β (fun i => o.dst = some i ∨ ∃ j want, o.guard = some (j, want) ∧ gslot ops j = some i) k r) Q := by
  have wk : ∀ {s1 : AS} {β1 : List Bl} {a' : Act} {w' : World}, After C s β (fun i => o.dst = some i) k r a' w' → After C s β (fun i => o.dst = some i ∨ ∃ j want, o.guard = some (j, want) ∧ gslot ops j = some i) k r a' w' :=
    fun ⟨s', β', h1, h2, h3⟩ => ⟨s', β', h1, h2, h3.mono fun i hi => .inl hi⟩
  unfold aop at e
  unfold OpOK
  split at e
  · rename_i hg
    have hw : Region.wanted o (yielded ops a.tmps) = true := by simp [Region.wanted, hg]
    rw [if_pos hw]
    have := step_sound (F := F) (n := n) (Q := Q) hF hΓ h e
    exact Oper.wpIn_mono (fun a' w' hh => wk (s1 := s) (β1 := β) hh) this
  · rename_i j want hg
    split at e
    · simp at e
    rename_i d hd
    have hyield : yielded ops a.tmps j = (match a.tmps.getD d undef with | .bool b => some b | _ => none) := by
      unfold gslot at hd
      cases ho : ops[j]? with
      | none => simp [ho] at hd
      | some oj =>
        simp only [ho] at hd
        unfold yielded
        simp [ho, hd]
        cases a.tmps[d]? with
        | none => rfl
        | some v => cases v <;> rfl
    split at e
    · rename_i b f hb
      obtain ⟨h1, hv⟩ := h.lit hb
      have hwant : Region.wanted o (yielded ops a.tmps) = (b == want) := by
        unfold Region.wanted
        rw [hg]
        simp only [hyield, hv]
        cases b <;> cases want <;> rfl
      have step : astep P Γ (s.put (some d) (litTV b)) o k = some r → o.wpIn F n P a w (After C s β (fun i => o.dst = some i ∨ ∃ j want, o.guard = some (j, want) ∧ gslot ops j = some i) k r) Q := fun e => by
        have := step_sound (F := F) (n := n) (Q := Q) hF hΓ h1 e
        refine Oper.wpIn_mono (fun a' w' hh => ?_) this
        obtain ⟨s', β', g1, g2, g3⟩ := hh
        exact ⟨s', β', g1, g2, ((Ext.put s β (some d) (litTV b)).mono fun i hi => .inr ⟨j, want, hg, by rw [hd]; exact hi⟩).trans (g3.mono fun i hi => .inl hi)⟩
      have skip : k ((s.put (some d) (litTV b)).put o.dst undefTV) = some r → After C s β (fun i => o.dst = some i ∨ ∃ j want, o.guard = some (j, want) ∧ gslot ops j = some i) k r (a.put o.dst undef) w := fun e =>
        ⟨_, _, e, h1.put _ _ _ undefTV_R, ((Ext.put s β (some d) (litTV b)).mono fun i hi => .inr ⟨j, want, hg, by rw [hd]; exact hi⟩).trans ((Ext.put _ _ _ _).mono fun i hi => .inl hi)⟩
      rw [hwant]
      cases b <;> cases want
      · exact step e
      · exact skip e
      · exact skip e
      · exact step e
    · rename_i hb
      have hv : a.tmps.getD d undef = .tuple #[] := by
        obtain ⟨vs, hv, hvs⟩ := h.tm d _ hb
        match vs, hvs with
        | [], _ => exact hv
      have hwant : Region.wanted o (yielded ops a.tmps) = false := by
        unfold Region.wanted
        rw [hg]
        simp only [hyield, hv]
        rfl
      rw [hwant]
      exact ⟨_, _, e, h.put _ _ _ undefTV_R, (Ext.put _ _ _ _).mono fun i hi => .inl hi⟩
    · simp at e

/-- A call behind which memory is as 'CallPost' says. -/
theorem grown_ext {h' : Heap} {β' : List Bl} (hg : Grown s.heap h' β β') (d : Nat → Prop) : Ext d s { s with heap := h' } β β' :=
  ⟨hg.bx, fun _ _ => rfl, rfl, hg.hl, hg.hp, ⟨[], rfl⟩, hg.hm⟩

theorem RoundIn.wide {F : Fence} (hF : FW F) {m n l : Nat} {f : FuncId} {tmps : Array Value} {assign body : Code} {R : Ending → World → Prop} (h : RoundIn Fence.wide m P l f tmps assign body w R) : RoundIn F n P l f tmps assign body w R := by
  have h0 : RoundIn Fence.wide n P l f tmps assign body w R := ⟨h.1, fun c cs hr => h.2 c cs (room_wide _)⟩
  rcases hF with rfl | ⟨l', rfl⟩
  · exact h0
  · exact h0

theorem stepI_sound (hF : FW F) {Γ : Env} (hΓ : Γ.Sound P) (hY : YOK P C β Γ.yl) (h : Rel C s β a w) (ee : astepI P Γ s o k = some r) :
    o.wpIn F n P a w (After C s β (fun i => o.dst = some i) k r) Q := by
  unfold astepI at ee
  split at ee
  · rename_i c ho
    split at ee
    · rename_i f hc
      split at ee
      · rename_i fid caps hf
        split at ee
        · rename_i d hd
          have hds := hΓ.inl _ d hd
          obtain ⟨bs, hv, hb⟩ := h.ev1 hf
          refine wpIn_enter hF (by simp [ho]) (f := fid) (args := (c.args.toList.map a.eval ++ bs).toArray) (w' := w) (enter_run ho hc hv hds.1)
            (hds.2 C β Γ.yl R _ _ r s ee a w _ (hY.mono (CxLe.push C s a) ⟨[], by simp⟩) h ((call_args h c.args.toList).app (call_caps hb))) ?_
          rintro e' w'' ⟨v, h', tv, β', rfl, hk, hr, ht, hg⟩
          exact ⟨v, rfl, _, _, hk, hr.put _ _ _ ht, (grown_ext hg _).trans (Ext.put _ _ _ _)⟩
        · exact step_sound hF hΓ h ee
      · rename_i l hf
        split at ee
        rotate_left
        · simp at ee
        rename_i H hH
        obtain ⟨rr, hr, hv⟩ := h.ev1 hf
        obtain ⟨rr', hr', hh⟩ := hY l H hH
        rw [hr] at hr'; cases hr'
        obtain ⟨fn, tmps, assign, body, hy, hround⟩ := hh C (CxLe.refl C) R _ _ r s ee β a w _ ⟨[], by simp⟩ h (call_args h c.args.toList)
        have hrun : (execOp a.eval o).run P w = .ok (.round rr.blk fn tmps assign body) w := by
          simp only [execOp, ho, resolve, hc, Deferred.ofValue, hv, Sem.run_bind, Sem.run_pure, Result.andThen_ok, invoke]
          have harr : (List.map a.eval c.args.toList).toArray = Array.map a.eval c.args := by apply Array.ext'; simp
          rw [harr] at hy
          simpa using hy
        refine wpIn_round hF (by simp [ho]) hrun (RoundIn.wide hF hround) ?_
        rintro e' w'' ⟨v, h', tv, β', rfl, hk, hrel, ht, hg⟩
        exact ⟨v, rfl, _, _, hk, hrel.put _ _ _ ht, (grown_ext hg _).trans (Ext.put _ _ _ _)⟩
      · simp at ee
    · exact step_sound hF hΓ h ee
  · exact step_sound hF hΓ h ee

theorem aopI_sound (hF : FW F) {Γ : Env} (hΓ : Γ.Sound P) (hY : YOK P C β Γ.yl) (h : Rel C s β a w) {ops : Array Oper} (e : aopI P Γ ops o s k = some r) :
    OpOK F n P ops o a w (After C s β (fun i => o.dst = some i ∨ ∃ j want, o.guard = some (j, want) ∧ gslot ops j = some i) k r) Q := by
  have wk : ∀ {s1 : AS} {β1 : List Bl} {a' : Act} {w' : World}, After C s β (fun i => o.dst = some i) k r a' w' → After C s β (fun i => o.dst = some i ∨ ∃ j want, o.guard = some (j, want) ∧ gslot ops j = some i) k r a' w' :=
    fun ⟨s', β', h1, h2, h3⟩ => ⟨s', β', h1, h2, h3.mono fun i hi => .inl hi⟩
  unfold aopI at e
  unfold OpOK
  split at e
  · rename_i hg
    have hw : Region.wanted o (yielded ops a.tmps) = true := by simp [Region.wanted, hg]
    rw [if_pos hw]
    have := stepI_sound (F := F) (n := n) (Q := Q) hF hΓ hY h e
    exact Oper.wpIn_mono (fun a' w' hh => wk (s1 := s) (β1 := β) hh) this
  · rename_i j want hg
    split at e
    · simp at e
    rename_i d hd
    have hyield : yielded ops a.tmps j = (match a.tmps.getD d undef with | .bool b => some b | _ => none) := by
      unfold gslot at hd
      cases ho : ops[j]? with
      | none => simp [ho] at hd
      | some oj =>
        simp only [ho] at hd
        unfold yielded
        simp [ho, hd]
        cases a.tmps[d]? with
        | none => rfl
        | some v => cases v <;> rfl
    split at e
    · rename_i b f hb
      obtain ⟨h1, hv⟩ := h.lit hb
      have hwant : Region.wanted o (yielded ops a.tmps) = (b == want) := by
        unfold Region.wanted
        rw [hg]
        simp only [hyield, hv]
        cases b <;> cases want <;> rfl
      have step : astepI P Γ (s.put (some d) (litTV b)) o k = some r → o.wpIn F n P a w (After C s β (fun i => o.dst = some i ∨ ∃ j want, o.guard = some (j, want) ∧ gslot ops j = some i) k r) Q := fun e => by
        have := stepI_sound (F := F) (n := n) (Q := Q) hF hΓ hY h1 e
        refine Oper.wpIn_mono (fun a' w' hh => ?_) this
        obtain ⟨s', β', g1, g2, g3⟩ := hh
        exact ⟨s', β', g1, g2, ((Ext.put s β (some d) (litTV b)).mono fun i hi => .inr ⟨j, want, hg, by rw [hd]; exact hi⟩).trans (g3.mono fun i hi => .inl hi)⟩
      have skip : k ((s.put (some d) (litTV b)).put o.dst undefTV) = some r → After C s β (fun i => o.dst = some i ∨ ∃ j want, o.guard = some (j, want) ∧ gslot ops j = some i) k r (a.put o.dst undef) w := fun e =>
        ⟨_, _, e, h1.put _ _ _ undefTV_R, ((Ext.put s β (some d) (litTV b)).mono fun i hi => .inr ⟨j, want, hg, by rw [hd]; exact hi⟩).trans ((Ext.put _ _ _ _).mono fun i hi => .inl hi)⟩
      rw [hwant]
      cases b <;> cases want
      · exact step e
      · exact skip e
      · exact skip e
      · exact step e
    · rename_i hb
      have hv : a.tmps.getD d undef = .tuple #[] := by
        obtain ⟨vs, hv, hvs⟩ := h.tm d _ hb
        match vs, hvs with
        | [], _ => exact hv
      have hwant : Region.wanted o (yielded ops a.tmps) = false := by
        unfold Region.wanted
        rw [hg]
        simp only [hyield, hv]
        rfl
      rw [hwant]
      exact ⟨_, _, e, h.put _ _ _ undefTV_R, (Ext.put _ _ _ _).mono fun i hi => .inl hi⟩
    · simp at e

theorem anil_sound (h : Rel C s β a w) {e n' : Bool} (he : anil P s o = some (e, n')) :
    o.guard = none ∧ (∀ c, o.op ≠ .defer c) ∧ ∃ b, (execOp a.eval o).run P w = .ok (.value (.bool b)) w ∧ (b = cond n' (!e) e ∨ b = n') := by
  unfold anil at he
  split at he
  · rename_i t x ty ho hg
    split at he
    rotate_left
    · simp at he
    rename_i el q xs f ht hx
    simp only [Option.some.injEq, Prod.mk.injEq] at he
    obtain ⟨rfl, rfl⟩ := he
    obtain ⟨A, c, hv, hle, hA⟩ := h.ev1 hx
    refine ⟨hg, by simp [ho], A.isNone, ?_, ?_⟩
    · have hc : a.eval (.const (.slice none 0 0)) = .slice none 0 0 := rfl
      have hv : a.eval x = .slice A (List.length xs) c := by simpa using hv
      simp only [execOp, ho, hv, hc]
      simp [eqGuard, binOp, run_equal_slice_nil w t el A _ c (aelem_some ht)]
    · cases A with
      | none =>
        left
        rcases hA with hA | ⟨b, o', es, hA, _⟩
        · simp [hA]
        · simp at hA
      | some _ => right; rfl
  · rename_i t x ty ho hg
    split at he
    rotate_left
    · simp at he
    rename_i el q xs f ht hx
    simp only [Option.some.injEq, Prod.mk.injEq] at he
    obtain ⟨rfl, rfl⟩ := he
    obtain ⟨A, c, hv, hle, hA⟩ := h.ev1 hx
    refine ⟨hg, by simp [ho], !A.isNone, ?_, ?_⟩
    · have hc : a.eval (.const (.slice none 0 0)) = .slice none 0 0 := rfl
      have hv : a.eval x = .slice A (List.length xs) c := by simpa using hv
      simp only [execOp, ho, hv, hc]
      simp [eqGuard, binOp, run_equal_slice_nil w t el A _ c (aelem_some ht)]
    · cases A with
      | none =>
        left
        rcases hA with hA | ⟨b, o', es, hA, _⟩
        · simp [hA]
        · simp at hA
      | some _ => right; rfl
  · simp at he

/-- The slots that a region's operations write. -/
def rdst (ops : Array Oper) (i : Nat) : Prop := ∃ o ∈ ops, o.dst = some i

theorem aops_sound (hF : FW F) {Γ : Env} (hΓ : Γ.Sound P) {ops : Array Oper} : ∀ (l : List Oper) (i : Nat), ops.toList.drop i = l → ∀ {s : AS} {β : List Bl} {a : Act} {w : World} {k : AS → Option R}, YOK P C β Γ.yl → Rel C s β a w → aops P Γ ops l s k = some r →
    (∀ a' w', After C s β (rdst ops) k r a' w' → Q .normal a' w') → wpOpsIn F n P ops Q (List.range' i l.length) a w
  | [], i, hl, s, β, a, w, k, hY, h, e, hQ => hQ a w ⟨s, β, e, h, Ext.refl _ _ _⟩
  | o :: l, i, hl, s, β, a, w, k, hY, h, e, hQ => by
    have ho : ops[i]? = some o := by
      have : (ops.toList.drop i)[0]? = some o := by rw [hl]; rfl
      simpa using this
    have hl' : ops.toList.drop (i + 1) = l := by
      have : (ops.toList.drop i).drop 1 = l := by rw [hl]; rfl
      rwa [List.drop_drop] at this
    have hmem : ∀ (j : Nat) (oj : Oper), ops[j]? = some oj → ∀ d, oj.dst = some d → rdst ops d := fun j oj hj d hd => ⟨oj, Array.mem_of_getElem? hj, hd⟩
    unfold aops at e
    split at e
    · rename_i ee nn hnil
      obtain ⟨e1, e2⟩ := both_some e
      obtain ⟨hg, hd, b, hrun, hb⟩ := anil_sound h hnil
      have hw : Region.wanted o (yielded ops a.tmps) = true := by simp [Region.wanted, hg]
      have goOn : ∀ b' : Bool, b = b' → aops P Γ ops l (s.put o.dst (.one (.dat .bool b' true))) k = some r → wpOpsIn F n P ops Q (List.range' i (o :: l).length) a w := by
        rintro b' rfl e'
        have h1 : Rel C (s.put o.dst (.one (.dat .bool b true))) β (a.put o.dst (.bool b)) w := h.put _ _ _ (by simp [TV.R, AV.R, K.rd])
        simp only [List.length_cons, List.range'_succ, wpOpsIn, ho]
        rw [if_pos hw]
        refine wpIn_value hF hd hrun (aops_sound hF hΓ l (i + 1) hl' hY h1 e' ?_)
        rintro a'' w'' ⟨s'', β'', q1, q2, q3⟩
        exact hQ a'' w'' ⟨s'', β'', q1, q2, ((Ext.put s β o.dst _).mono fun d hd => hmem i o ho d hd).trans q3⟩
      rcases hb with hb | hb
      · exact goOn _ hb e1
      · exact goOn _ hb e2
    have hs := aopI_sound (F := F) (n := n) (Q := Q) hF hΓ hY h e
    have next : ∀ a' w', After C s β (fun i => o.dst = some i ∨ ∃ j want, o.guard = some (j, want) ∧ gslot ops j = some i) (fun s' => aops P Γ ops l s' k) r a' w' → wpOpsIn F n P ops Q (List.range' (i + 1) l.length) a' w' := by
      rintro a' w' ⟨s', β', g1, g2, g3⟩
      have g3' : Ext (rdst ops) s s' β β' := g3.mono fun d hd => by
        rcases hd with hd | ⟨j, want, _, hj⟩
        · exact hmem i o ho d hd
        · unfold gslot at hj
          cases hoj : ops[j]? with
          | none => simp [hoj] at hj
          | some oj => simp only [hoj] at hj; exact hmem j oj hoj d hj
      refine aops_sound hF hΓ l (i + 1) hl' (hY.mono (CxLe.refl _) g3.bx) g2 g1 ?_
      rintro a'' w'' ⟨s'', β'', q1, q2, q3⟩
      exact hQ a'' w'' ⟨s'', β'', q1, q2, g3'.trans q3⟩
    simp only [List.length_cons, List.range'_succ, wpOpsIn, ho]
    unfold OpOK at hs
    split
    · rename_i hw
      rw [if_pos hw] at hs
      exact Oper.wpIn_mono next hs
    · rename_i hw
      rw [if_neg hw] at hs
      exact ⟨fun f _ => hF.fn f, next _ _ hs⟩

theorem region_sound (hF : FW F) {Γ : Env} (hΓ : Γ.Sound P) (hY : YOK P C β Γ.yl) {id : Nat} {ops : Array Oper} (h : Rel C s β a w) (e : aops P Γ ops ops.toList s k = some r)
    (hQ : ∀ a' w', After C s β (rdst ops) k r a' w' → Q .normal a' w') : (Code.region id ops false).wpIn F n P Q a w := by
  refine wpIn_region ?_
  have := aops_sound (n := n) (Q := Q) hF hΓ ops.toList 0 rfl hY h e hQ
  simpa [List.range_eq_range'] using this
end
end Go.Proofs.AM
