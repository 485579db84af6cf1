/- Regions that draw their order: the machine's. -/
import Derived.Test.YtefekolpfklhdaaAmA24
set_option maxRecDepth 2000
set_option linter.unusedVariables false
set_option linter.unusedSimpArgs false
namespace Go.Proofs.AM
open Go Go.RowKit

section
variable {P : Program} {Γ : Env} {ops : Array Oper} {C : Cx} {s : AS} {β : List Bl} {a : Act} {w : World}

theorem Rel.norm (h : Rel C s β a w) (d : Option Nat) : Rel C (anormAt s d) β a w := by
  cases d with
  | none => exact h
  | some d =>
    unfold anormAt
    dsimp only
    split
    · rename_i t ht
      refine { h with tsize := by simp [h.tsize], tm := fun i t' hi => ?_ }
      by_cases e : d = i
      · subst e
        have hl := (List.getElem?_eq_some_iff.1 ht).1
        have hi : (s.tmps.set d (anorm t))[d]? = some t' := hi
        rw [List.getElem?_set_self hl] at hi
        cases hi
        exact anorm_R (h.tm d t ht)
      · have hi : (s.tmps.set d (anorm t))[i]? = some t' := hi
        rw [List.getElem?_set_ne e] at hi
        exact h.tm i t' hi
    · exact h

theorem Ext.norm (s : AS) (β : List Bl) (d : Option Nat) : Ext (fun i => d = some i) s (anormAt s d) β β := by
  cases d with
  | none => exact Ext.refl _ _ _
  | some d =>
    unfold anormAt
    dsimp only
    split
    · rename_i t ht
      refine ⟨⟨[], by simp⟩, fun i hi => ?_, by simp, Nat.le_refl _, fun _ _ _ h => h, ⟨[], rfl⟩, fun _ h => h⟩
      show (s.tmps.set d (anorm t))[i]? = _
      rw [List.getElem?_set_ne (fun e => hi (by rw [e]))]
    · exact Ext.refl _ _ _

theorem Rel.drew (h : Rel C s β a w) : Rel C s β a { w with drawn := w.drawn + 1 } := (h.grew (Grew.drew w)).1

theorem count_set {l : List Bool} {i : Nat} (h : l[i]? = some false) : (l.set i true).count false + 1 = l.count false := by
  have hl := (List.getElem?_eq_some_iff.1 h).1
  have hv := (List.getElem?_eq_some_iff.1 h).2
  rw [List.count_set hl, hv]
  have : 0 < l.count false := List.count_pos_iff.2 (List.mem_of_getElem? h)
  simp
  omega

theorem draw_any {F : Fence} (hF : FW F) (hΓ : Γ.Sound P) {n : Nat} {Q : Exit → Act → World → Prop} {s0 : AS} {β0 : List Bl} {R : Type} {k : AS → Option R} {r : R} {ts : List TV} {HH : Nat → Heap} (H : Ref P Γ ops s0 k r ts HH)
    (hQ : ∀ a' w', After C s0 β0 (rdst ops) k r a' w' → Q .normal a' w') :
    ∀ (fuel : Nat) (L : Array Bool) (s : AS) (β : List Bl) (a : Act) (w : World), L.size = ops.size → Cl ops L → SI Γ ops s0 ts HH L s → Rel C s β a w → Ext (rdst ops) s0 s β0 β → L.toList.count false ≤ fuel →
      wpAnyIn F n P .any ops Q fuel L a w := by
  have fin : ∀ (L : Array Bool) (s : AS) (β : List Bl) (a : Act) (w : World), L.size = ops.size → SI Γ ops s0 ts HH L s → Rel C s β a w → Ext (rdst ops) s0 s β0 β → (∀ j, j < ops.size → L.getD j false = true) → Q .normal a w :=
    fun L s β a w hsz S h hE hall => hQ a w ⟨s, β, S.final H hall, h, hE⟩
  have allOf : ∀ (L : Array Bool), L.size = ops.size → Region.ready .any ops L = [] → ∀ j, j < ops.size → L.getD j false = true := by
    intro L hsz hr j
    induction j using Nat.strongRecOn with
    | _ j ih =>
      intro hj
      cases hL : L.getD j false with
      | true => rfl
      | false =>
        have hmem : j ∈ Region.ready .any ops L := by
          rw [mem_ready]
          refine ⟨?_, ops[j], Array.getElem?_eq_getElem hj, fun e he hb => ?_⟩
          · have hjL : j < L.size := by omega
            simpa [hjL] using hL
          · have hd : e.on ∈ dirs ops[j] := by
              unfold dirs
              exact List.mem_map.2 ⟨e, List.mem_filter.2 ⟨by simpa using he, hb⟩, rfl⟩
            have := H.dp.dir j _ (Array.getElem?_eq_getElem hj) _ hd
            exact ih e.on this (by omega)
        rw [hr] at hmem; simp at hmem
  intro fuel
  induction fuel with
  | zero =>
    intro L s β a w hsz hcl S h hE hc
    have hc0 : L.toList.count false = 0 := by omega
    have hall : ∀ j, j < ops.size → L.getD j false = true := by
      intro j hj
      have hjL : j < L.size := by omega
      cases hL : L.getD j false with
      | true => rfl
      | false =>
        have : false ∈ L.toList := by
          have : L[j] = false := by simpa [hjL] using hL
          rw [← this]; simp
        have := List.count_pos_iff.2 this
        omega
    refine ⟨?_, fin L s β a w hsz S h hE hall⟩
    apply List.eq_nil_iff_forall_not_mem.2
    intro i hi
    obtain ⟨h1, o, ho, _⟩ := mem_ready.1 hi
    have hin : i < ops.size := (Array.getElem?_eq_some_iff.1 ho).1
    have := hall i hin
    have hiL : i < L.size := by omega
    simp [hiL] at this h1
    rw [this] at h1; simp at h1
  | succ fuel ih =>
    intro L s β a w hsz hcl S h hE hc
    refine ⟨fun hr => fin L s β a w hsz S h hE (allOf L hsz hr), fun i hi => ?_⟩
    obtain ⟨h1, o, ho, hafter⟩ := mem_ready.1 hi
    have hin : i < ops.size := (Array.getElem?_eq_some_iff.1 ho).1
    have hiL : i < L.size := by omega
    have hLi : L[i] = false := by simpa [hiL] using h1
    have hd : ∀ j ∈ dirs o, L.getD j false = true := by
      intro j hj
      unfold dirs at hj
      obtain ⟨e, he, rfl⟩ := List.mem_map.1 hj
      obtain ⟨he, hb⟩ := List.mem_filter.1 he
      exact hafter e (by simpa using he) hb
    obtain ⟨s', hs', S'⟩ := S.next H hcl hsz ho (by simp [hiL, hLi]) hd
    have hstep := aop_sound (F := F) (n := n) (Q := Q) hF hΓ h hs'
    have hcl' : Cl ops (L.setIfInBounds i true) := by
      intro i' o' ho' hL' j hj
      by_cases e : i = i'
      · subst e
        rw [ho] at ho'; cases ho'
        exact getD_set_true (hd j hj)
      · have : L.getD i' false = true := by
          have : (L.setIfInBounds i true).getD i' false = L.getD i' false := by simp [Array.getElem?_setIfInBounds_ne e]
          rw [← this]; exact hL'
        exact getD_set_true (hcl i' o' ho' this j hj)
    have next : ∀ a' w', After C s β (fun d => o.dst = some d ∨ ∃ j want, o.guard = some (j, want) ∧ gslot ops j = some d) some s' a' w' → wpAnyIn F n P .any ops Q fuel (L.setIfInBounds i true) a' w' := by
      rintro a' w' ⟨s1, β1, e1, g1, g2⟩
      cases e1
      have hmem : ∀ (j : Nat) (oj : Oper), ops[j]? = some oj → ∀ d, oj.dst = some d → rdst ops d := fun j oj hj d hd => ⟨oj, Array.mem_of_getElem? hj, hd⟩
      have g2' : Ext (rdst ops) s s' β β1 := g2.mono fun d hd => by
        rcases hd with hd | ⟨j, want, _, hj⟩
        · exact hmem i o ho d hd
        · unfold gslot at hj
          cases hoj : ops[j]? with
          | none => simp [hoj] at hj
          | some oj => simp only [hoj] at hj; exact hmem j oj hoj d hj
      refine ih _ _ β1 a' w' (by simpa using hsz) hcl' S' (g1.norm o.dst) ((hE.trans g2').trans ((Ext.norm _ _ _).mono fun d hd => hmem i o ho d hd)) ?_
      have : L.toList[i]? = some false := by
        rw [Array.getElem?_toList, Array.getElem?_eq_getElem hiL, hLi]
      have := count_set this
      have e2 : (L.setIfInBounds i true).toList = L.toList.set i true := by simp
      rw [e2]
      omega
    unfold wpOpIn
    rw [ho]
    unfold OpOK at hstep
    dsimp only
    split
    · rename_i hw
      rw [if_pos hw] at hstep
      exact Oper.wpIn_mono next hstep
    · rename_i hw
      rw [if_neg hw] at hstep
      exact ⟨fun f _ => hF.fn f, next _ _ hstep⟩

theorem draw_sound {F : Fence} (hF : FW F) (hΓ : Γ.Sound P) (hm : P.follows .mixedOrders = true) {n : Nat} {Q : Exit → Act → World → Prop} {id : Nat} {R : Type} {k : AS → Option R} {r : R} (h : Rel C s β a w) (e : adraw P Γ ops s k = some r)
    (hQ : ∀ a' w', After C s β (rdst ops) k r a' w' → Q .normal a' w') : (Code.region id ops true).wpIn F n P Q a w := by
  obtain ⟨ts, HH, H⟩ := adraw_ref e
  refine wpIn_region_any hm (draw_any hF hΓ H hQ ops.size _ s β a _ (by simp) ?_ ?_ h.drew (Ext.refl _ _ _) ?_)
  · intro i o ho hL
    have hin : i < ops.size := (Array.getElem?_eq_some_iff.1 ho).1
    simp [hin] at hL
  · have hno : ∀ j, (Array.replicate ops.size false).getD j false = true → False := by
      intro j hL
      by_cases hj : j < ops.size <;> simp [hj] at hL
    exact ⟨rfl, fun j o d t _ hL => (hno j hL).elim, fun _ _ => rfl, rfl, 0, Nat.zero_le _, H.h0.symm, fun j o _ _ => ⟨fun hL => (hno j hL).elim, fun h => by omega⟩⟩
  · simp
end
end Go.Proofs.AM
