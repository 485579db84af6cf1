/- Telling a state anew by data. -/
import Derived.Test.YtefekolpfklhdaaAmA17
set_option maxRecDepth 2000
set_option linter.unusedVariables false
set_option linter.unusedSimpArgs false
namespace Go.Proofs.AM
open Go Go.RowKit

theorem junkAll_tm {i : Nat} : ∀ (D : List Nat) (t : List TV), i ∉ D → (junkAll D t)[i]? = t[i]?
  | [], _, _ => rfl
  | d :: D, t, h => by
    show (junkAll D (t.set d (.one .junk)))[i]? = _
    rw [junkAll_tm D _ (fun hh => h (by simp [hh])), List.getElem?_set_ne (fun e => h (by simp [e]))]

theorem junkAll_len : ∀ (D : List Nat) (t : List TV), (junkAll D t).length = t.length
  | [], _ => rfl
  | d :: D, t => by
    show (junkAll D (t.set d (.one .junk))).length = _
    rw [junkAll_len D]; simp

theorem junkAll_in {i : Nat} : ∀ (D : List Nat) (t : List TV), i ∈ D → ∀ x, (junkAll D t)[i]? = some x → x = .one .junk
  | d :: D, t, h, x, hx => by
    have hx : (junkAll D (t.set d (.one .junk)))[i]? = some x := hx
    by_cases hi : i ∈ D
    · exact junkAll_in D _ hi x hx
    · rw [junkAll_tm D _ hi] at hx
      have : i = d := by simpa [hi] using h
      subst this
      rw [List.getElem?_set_self'] at hx
      cases h' : t[i]? <;> simp [h'] at hx
      exact hx.symm

theorem base_get {hd : Bool} {ks bs : List Nat} : ∀ (h : Heap) (n j : Nat), (baseHeapFrom hd ks bs h n)[j]? = (h[j]?).map (fun o => baseObj hd ks bs o (n + j))
  | [], _, _ => rfl
  | o :: h, n, 0 => rfl
  | o :: h, n, j + 1 => by
    show (baseHeapFrom hd ks bs h (n + 1))[j]? = _
    rw [base_get h (n + 1) j]
    simp [Nat.add_assoc, Nat.add_comm 1 j]

theorem base_len {hd : Bool} {ks bs : List Nat} : ∀ (h : Heap) (n : Nat), (baseHeapFrom hd ks bs h n).length = h.length
  | [], _ => rfl
  | o :: h, n => by simp [baseHeapFrom, base_len h]

/-! ### what the telling leaves -/
theorem encI_tm {hd : Bool} {it : Item} {x : it.kind.den} {th : List TV × Heap} {i : Nat} (h : i ∉ slotsOf [it]) : (encI hd it x th).1[i]? = th.1[i]? := by
  obtain ⟨t, hh⟩ := th
  cases it with
  | slot j sk =>
    simp only [encI]
    rw [List.getElem?_set_ne (fun e => h (by simp [slotsOf, e]))]
  | cell l j sk => simp only [encI]; split <;> rfl
  | vec l T k fr => rfl
  | map l k v fr => rfl
  | lp l st => rfl

theorem encI_tl {hd : Bool} {it : Item} {x : it.kind.den} {th : List TV × Heap} : (encI hd it x th).1.length = th.1.length := by
  obtain ⟨t, hh⟩ := th
  cases it with
  | slot j sk => simp [encI]
  | cell l j sk => simp only [encI]; split <;> rfl
  | vec l T k fr => rfl
  | map l k v fr => rfl
  | lp l st => rfl

theorem encI_le {hd : Bool} {it : Item} {x : it.kind.den} {th : List TV × Heap} : th.2.length ≤ (encI hd it x th).2.length := by
  obtain ⟨t, hh⟩ := th
  cases it with
  | slot j sk => simp [encI]
  | cell l j sk => simp only [encI]; split <;> simp
  | vec l T k fr => simp [encI]
  | map l k v fr => simp [encI]
  | lp l st => simp [encI]

theorem encI_keep {hd : Bool} {it : Item} {x : it.kind.den} {th : List TV × Heap} {l : Nat} (hl : l < th.2.length) (h : l ∉ boxesOf [it] ++ vecsOf [it]) : (encI hd it x th).2[l]? = th.2[l]? := by
  obtain ⟨t, hh⟩ := th
  cases it with
  | slot j sk => simp only [encI]; rw [List.getElem?_append_left hl]
  | cell m j sk =>
    simp only [encI]
    have : m ≠ l := fun e => h (by simp [boxesOf, e])
    split
    · rw [List.getElem?_append_left (by simpa using hl), List.getElem?_set_ne this]
    · rfl
  | vec m T k fr =>
    have : m ≠ l := fun e => h (by simp [vecsOf, e])
    simp only [encI]
    rw [List.getElem?_set_ne this]
  | map m k v fr =>
    have : m ≠ l := fun e => h (by simp [vecsOf, e])
    simp only [encI]
    rw [List.getElem?_set_ne this]
  | lp m st =>
    have : m ≠ l := fun e => h (by simp [vecsOf, e])
    simp only [encI]
    rw [List.getElem?_set_ne this]

theorem encI_flag {it : Item} {x : it.kind.den} {th : List TV × Heap} {l : Nat} {o : AObj} (hl : l < th.2.length) (h : (encI false it x th).2[l]? = some (false, o)) : th.2[l]? = some (false, o) := by
  obtain ⟨t, hh⟩ := th
  cases it with
  | slot j sk => simp only [encI] at h; rwa [List.getElem?_append_left hl] at h
  | cell m j sk =>
    simp only [encI] at h
    split at h
    · rw [List.getElem?_append_left (by simpa using hl)] at h
      by_cases e : m = l
      · subst e; simp [show m < hh.length from hl] at h
      · rwa [List.getElem?_set_ne e] at h
    · exact h
  | vec m T k fr =>
    simp only [encI] at h
    by_cases e : m = l
    · subst e; simp [show m < hh.length from hl] at h
    · rwa [List.getElem?_set_ne e] at h
  | map m k v fr =>
    simp only [encI] at h
    by_cases e : m = l
    · subst e; simp [show m < hh.length from hl] at h
    · rwa [List.getElem?_set_ne e] at h
  | lp m st =>
    simp only [encI] at h
    by_cases e : m = l
    · subst e; simp [show m < hh.length from hl] at h
    · rwa [List.getElem?_set_ne e] at h

theorem slots_sub {it : Item} {r : List Item} {i : Nat} (h : i ∉ slotsOf (it :: r)) : i ∉ slotsOf [it] ∧ i ∉ slotsOf r := by
  cases it <;> simp_all [slotsOf]
theorem boxes_sub {it : Item} {r : List Item} {i : Nat} (h : i ∉ boxesOf (it :: r) ++ vecsOf (it :: r)) : i ∉ boxesOf [it] ++ vecsOf [it] ∧ i ∉ boxesOf r ++ vecsOf r := by
  cases it <;> simp_all [boxesOf, vecsOf]

theorem encL_tm {hd : Bool} {i : Nat} : ∀ (la : List Item) (x : KU (LA.kinds la)) (th : List TV × Heap), i ∉ slotsOf la → (encL hd la x th).1[i]? = th.1[i]?
  | [], _, _, _ => rfl
  | it :: r, x, th, h => by
    exact (encL_tm r x.2 (encI hd it x.1 th) (slots_sub h).2).trans (encI_tm (slots_sub h).1)

theorem encL_tl {hd : Bool} : ∀ (la : List Item) (x : KU (LA.kinds la)) (th : List TV × Heap), (encL hd la x th).1.length = th.1.length
  | [], _, _ => rfl
  | it :: r, x, th => by
    exact (encL_tl r x.2 (encI hd it x.1 th)).trans encI_tl

theorem encL_le {hd : Bool} : ∀ (la : List Item) (x : KU (LA.kinds la)) (th : List TV × Heap), th.2.length ≤ (encL hd la x th).2.length
  | [], _, _ => Nat.le_refl _
  | it :: r, x, th => Nat.le_trans encI_le (encL_le r x.2 (encI hd it x.1 th))

theorem encL_keep {hd : Bool} {l : Nat} : ∀ (la : List Item) (x : KU (LA.kinds la)) (th : List TV × Heap), l < th.2.length → l ∉ boxesOf la ++ vecsOf la → (encL hd la x th).2[l]? = th.2[l]?
  | [], _, _, _, _ => rfl
  | it :: r, x, th, hl, h => by
    exact (encL_keep r x.2 (encI hd it x.1 th) (Nat.lt_of_lt_of_le hl encI_le) (boxes_sub h).2).trans (encI_keep hl (boxes_sub h).1)

theorem encL_flag {l : Nat} {o : AObj} : ∀ (la : List Item) (x : KU (LA.kinds la)) (th : List TV × Heap), l < th.2.length → (encL false la x th).2[l]? = some (false, o) → th.2[l]? = some (false, o)
  | [], _, _, _, h => h
  | it :: r, x, th, hl, h => by
    have h : (encL false r x.2 (encI false it x.1 th)).2[l]? = some (false, o) := h
    exact encI_flag hl (encL_flag r _ _ (Nat.lt_of_lt_of_le hl encI_le) h)

section
variable {C : Cx} {s : AS} {β : List Bl} {a : Act} {w : World}

theorem own_rec (hb : β.length = s.heap.length) {it : Item} {x : it.kind.den} {l : Option Nat} (e : decI s it = some (x, l)) {k : K} (ho : it.owns = true) (hk : it.kind = .sl k) : (recOf β k l).isSome = true := by
  have key : ∀ {T : TypeId} {fr : Bool} {y : AV} {xs : List k.den}, decV s.heap T k fr y = some (xs, l) → (recOf β k l).isSome = true := by
    intro T fr y xs e
    rcases decV_some e with ⟨_, _, rfl⟩ | ⟨m, f, _, rfl, hm, _⟩
    · rfl
    · obtain ⟨g, hg⟩ := hat_eq hm (by simp)
      have := (List.getElem?_eq_some_iff.1 hg).1
      simp [recOf, hb, this]
  obtain ⟨T, k', fr, ⟨i, rfl⟩ | ⟨m, j, rfl⟩⟩ := owns_kind ho
  · simp only [Item.kind, SK.kind, K.sl.injEq] at hk; subst hk
    simp only [decI] at e
    split at e
    · simp only [decS] at e
      split at e
      · exact key e
      · simp at e
    · simp at e
  · simp only [Item.kind, SK.kind, K.sl.injEq] at hk; subst hk
    simp only [decI] at e
    split at e
    · split at e
      · simp only [decS] at e
        exact key e
      · simp at e
    · simp at e

theorem recsOf_ok (hb : β.length = s.heap.length) : ∀ (la : List Item) (x : KU (LA.kinds la)) (ls : List (Option Nat)), decL s la = some (x, ls) → (recsOf β la ls).length = ls.length ∧ ∀ o ∈ recsOf β la ls, o.isSome = true
  | [], x, ls, e => by
    simp [decL] at e
    obtain ⟨_, rfl⟩ := e
    simp [recsOf]
  | it :: r, x, ls, e => by
    unfold decL at e
    split at e
    rotate_left
    · simp at e
    rename_i x1 l y ls' e1 e2
    simp only [Option.some.injEq, Prod.mk.injEq] at e
    obtain ⟨rfl, rfl⟩ := e
    have ih := recsOf_ok hb r y ls' e2
    cases hoc : it.owns with
    | true =>
      obtain ⟨T, k', fr, hcase⟩ := owns_kind hoc
      have hk : it.kind = .sl k' := by rcases hcase with ⟨i, rfl⟩ | ⟨m, j, rfl⟩ <;> rfl
      rw [if_pos rfl, recsOf_cons hoc hk]
      refine ⟨by simp [ih.1], fun o ho => ?_⟩
      rcases List.mem_cons.1 ho with rfl | ho
      · exact own_rec hb e1 hoc hk
      · exact ih.2 o ho
    | false =>
      simp only [Bool.false_eq_true, if_false]
      rw [recsOf_skip hoc]
      exact ih

theorem nodupO_inj {l : Nat} : ∀ {ls : List (Option Nat)} {i j : Nat}, nodupO ls = true → ls[i]? = some (some l) → ls[j]? = some (some l) → i = j
  | [], i, j, _, h, _ => by simp at h
  | x :: r, 0, 0, _, _, _ => rfl
  | x :: r, i + 1, 0, hn, hi, hj => by
    simp at hi hj
    subst hj
    simp [nodupO] at hn
    exact absurd (List.mem_of_getElem? hi) hn.1
  | x :: r, 0, j + 1, hn, hi, hj => by
    simp at hi hj
    subst hi
    simp [nodupO] at hn
    exact absurd (List.mem_of_getElem? hj) hn.1
  | x :: r, i + 1, j + 1, hn, hi, hj => by
    have hn' : nodupO r = true := by cases x <;> simp_all [nodupO]
    exact congrArg (· + 1) (nodupO_inj (l := l) (i := i) (j := j) hn' (by simpa using hi) (by simpa using hj))

/-- What a state of a Rel says of itself. -/
structure AS.Fine (C : Cx) (s : AS) : Prop where
  tm : ∀ (i : Nat) (t : TV), s.tmps[i]? = some t → t.lt s.heap.length
  ob : ∀ (l : Nat) (o : Bool × AObj), s.heap[l]? = some o → o.2.lt s.heap.length
  mks : ∀ l, AllMarks C s l → s.heap[l]? = some (true, .mark)
  frm : ∀ f ∈ C.frs, ∀ (i : Nat) (t : TV), f.tmps[i]? = some t → t.lt s.heap.length

theorem Rel.fine (h : Rel C s β a w) : s.Fine C where
  tm i t e := by have := TV.R_lt (h.tm i t e); rwa [h.bsize] at this
  ob l o e := by
    have hl := (List.getElem?_eq_some_iff.1 e).1
    have := AObj.R_lt (h.ob l o _ e (List.getElem?_eq_getElem (by rw [h.bsize]; exact hl)))
    rwa [h.bsize] at this
  mks l hl := h.mark_all hl
  frm f hf i t e := by have := TV.R_lt ((h.frs f hf).tm i t e); rwa [h.bsize] at this

structure okP (h0 h : Heap) (D ks : List Nat) (la : List Item) (ls : List (Option Nat)) : Prop where
  sl : ∀ i ∈ slotsOf la, i ∈ D
  bx : ∀ l ∈ boxesOf la, ∃ T cs cs', l < h0.length ∧ hat h0 l = .box T cs ∧ hat h l = .box T cs' ∧ cs.length = cs'.length
  vc : ∀ l ∈ vecsOf la, l < h0.length ∧ (hat h0 l).whole = true
  ow : ∀ l, some l ∈ ls → l ∈ ks ∨ h0.length ≤ l
  nd : nodupO ls = true
  kk : ∀ l ∈ ks, (hat h0 l).isMark = false ∧ l ∉ boxesOf la ++ vecsOf la

theorem okL_ok {h0 h : Heap} {D ks : List Nat} {la : List Item} {ls : List (Option Nat)} (e : okL h0 h D ks la ls = true) : okP h0 h D ks la ls := by
  simp only [okL, Bool.and_eq_true, List.all_eq_true] at e
  obtain ⟨⟨⟨⟨⟨e1, e2⟩, e3⟩, e4⟩, e5⟩, e6⟩ := e
  refine ⟨fun i hi => by simpa using e1 i hi, fun l hl => ?_, fun l hl => ?_, fun l hl => by simpa using e4 _ hl, e5, fun l hl => by simpa using e6 l hl⟩
  · obtain ⟨q1, q2⟩ := e2 l hl
    split at q2
    · rename_i T cs T' cs' g1 g2
      simp at q2
      obtain ⟨rfl, q2⟩ := q2
      exact ⟨_, _, _, by simpa using q1, g1, g2, q2⟩
    · simp at q2
  · obtain ⟨q1, q2⟩ := e3 l hl
    exact ⟨by simpa using q1, q2⟩

theorem Rel.reenc (h : Rel C s β a w) {s0 : AS} (hf : s0.Fine C) {D ks : List Nat} {la : List Item} {xu : KU (LA.kinds la)} {ls : List (Option Nat)} (e : decL s la = some (xu, ls)) (ok : okL s0.heap s.heap D ks la ls = true)
    (htl : s.tmps.length = s0.tmps.length) (hmk : s.marks = s0.marks) (htm : ∀ i, i ∉ D → s.tmps[i]? = s0.tmps[i]?) (hlen : s0.heap.length ≤ s.heap.length)
    (hun : ∀ (l : Nat) (o : Bool × AObj), s0.heap[l]? = some o → l ∉ ks → l ∉ boxesOf la ++ vecsOf la → ∃ f, s.heap[l]? = some (f, o.2)) (hd : Bool) :
    ∃ β', Rel C (enc hd s0 D ks la (KT.down xu)) β' a w ∧ ∀ β0 δ, β = β0 ++ δ → β0.length = s0.heap.length → ∃ δ', β' = β0 ++ δ' := by
  have ok := okL_ok ok
  obtain ⟨hl1, hl2⟩ := recsOf_ok h.bsize la xu ls e
  generalize hn : s0.heap.length = n0 at *
  have htk : (β.take n0).length = n0 := by simp [h.bsize]; omega
  let src : Nat → Option Nat := fun j => if j < n0 then some j else (ls[j - n0]?).join
  let β' : List Bl := β.take n0 ++ (recsOf β la ls).map (fun o => o.getD ⟨0, 0, 0, 0, 0, false, none⟩)
  have hβ : ∀ l, l < n0 → β'[l]? = β[l]? := fun l hl => by
    show (β.take n0 ++ _)[l]? = _
    rw [List.getElem?_append_left (by omega), List.getElem?_take]
    simp [hl]
  have hβ2 : ∀ (i : Nat) (o : Option Bl), (recsOf β la ls)[i]? = some o → β'[n0 + i]? = o := fun i o ho => by
    show (β.take n0 ++ _)[n0 + i]? = _
    rw [List.getElem?_append_right (by omega), htk, Nat.add_sub_cancel_left, List.getElem?_map, ho]
    have := hl2 o (List.mem_of_getElem? ho)
    cases o with
    | none => simp at this
    | some r => rfl
  have hβ3 : β'.length = n0 + ls.length := by
    show (β.take n0 ++ _).length = _
    rw [List.length_append, htk, List.length_map, hl1]
  have hnm : ∀ l, AllMarks C s0 l → l ∉ ks ∧ l ∉ boxesOf la ++ vecsOf la := by
    intro l hl
    have hm := hf.mks l hl
    refine ⟨fun hk => ?_, fun hb => ?_⟩
    · have := (ok.kk l hk).1; simp [hat, hm, AObj.isMark] at this
    · rcases List.mem_append.1 hb with hb | hb
      · obtain ⟨T, cs, _, _, hx, _⟩ := ok.bx l hb; simp [hat, hm] at hx
      · obtain ⟨_, hx⟩ := ok.vc l hb; simp [hat, hm, AObj.whole] at hx
  have hAM : ∀ l, AllMarks C s l ↔ AllMarks C s0 l := fun l => by unfold AllMarks; rw [hmk]
  have hsrc0 : ∀ l, l < n0 → src l = some l := fun l hl => if_pos hl
  have I0 : Inv C s β β' a w src (junkAll D s0.tmps, baseHeapFrom hd ks (boxesOf la ++ vecsOf la) s0.heap 0) := by
    refine ⟨fun i x hx => ?_, fun j o hj => ?_, fun l hl => ?_, by rw [htl]; exact junkAll_len _ _⟩
    · by_cases hi : i ∈ D
      · rw [junkAll_in D _ hi x hx]; trivial
      · have hx : (junkAll D s0.tmps)[i]? = some x := hx
        rw [junkAll_tm D _ hi] at hx
        exact TV.R_pre hβ (by have := hf.tm i x hx; rwa [hn] at this) (h.tm i x (by rw [htm i hi]; exact hx))
    · have hj : (baseHeapFrom hd ks (boxesOf la ++ vecsOf la) s0.heap 0)[j]? = some o := hj
      rw [base_get] at hj
      cases h0 : s0.heap[j]? with
      | none => simp [h0] at hj
      | some p =>
        simp only [h0, Option.map_some, Option.some.injEq, Nat.zero_add] at hj
        have hjl : j < n0 := by have := (List.getElem?_eq_some_iff.1 h0).1; omega
        unfold baseObj at hj
        split at hj
        · subst hj; exact .inl rfl
        split at hj
        · rename_i hk hb
          subst hj
          rcases List.mem_append.1 (by simpa using hb) with hb | hb
          · obtain ⟨T, cs, cs', _, g1, g2, g3⟩ := ok.bx j hb
            have hp : p.2 = .box T cs := by simpa [hat, h0] using g1
            obtain ⟨f, r, q1, q2, vs, q3, q4, q5⟩ := h.obj g2 (by simp)
            refine .inr ⟨r, by rw [hβ j hjl]; exact q2, ?_, .inr ⟨j, _, hsrc0 j hjl, q1, q2, by simp [hp, AObj.clear, AObj.occ]⟩⟩
            simp only [hp, AObj.clear]
            refine ⟨vs, q3, q4, ?_⟩
            have := All2.len q5
            have key : ∀ (cs : List AV) (vs : List Value), cs.length = vs.length → All2 (AV.R w (C.N s.heap β w) (C.fresh s.heap β w) β') (cs.map fun _ => AV.junk) vs := by
              intro cs
              induction cs with
              | nil => intro vs hh; cases vs <;> simp at hh; trivial
              | cons c cs ih => intro vs hh; cases vs with
                | nil => simp at hh
                | cons v vs => exact ⟨trivial, ih vs (by simpa using hh)⟩
            exact key cs vs (by omega)
          · obtain ⟨_, hx⟩ := ok.vc j hb
            have hx : p.2.whole = true := by simpa [hat, h0] using hx
            refine .inl ?_
            show p.2.clear = .dead
            revert hx
            cases p.2 <;> simp [AObj.whole, AObj.clear]
        · rename_i hk hb
          obtain ⟨f, hfs⟩ := hun j p h0 (by simpa using hk) (by simpa using hb)
          have hlt := hf.ob j p h0
          rw [hn] at hlt
          obtain ⟨r, hr⟩ : ∃ r, β[j]? = some r := ⟨_, List.getElem?_eq_getElem (by rw [h.bsize]; omega)⟩
          subst hj
          refine .inr ⟨r, by rw [hβ j hjl]; exact hr, AObj.R_pre hβ hlt (h.ob j (f, p.2) r hfs hr), .inr ⟨j, _, hsrc0 j hjl, hfs, hr, rfl⟩⟩
    · rw [hAM] at hl
      have hm := hf.mks l hl
      obtain ⟨hk, hb⟩ := hnm l hl
      show (baseHeapFrom hd ks (boxesOf la ++ vecsOf la) s0.heap 0)[l]? = _
      rw [base_get, hm]
      simp only [Option.map_some, Nat.zero_add, baseObj]
      rw [if_neg (by simpa using hk), if_neg (by simpa using hb)]
      cases hd <;> rfl
  have hbl := base_len (hd := hd) (ks := ks) (bs := boxesOf la ++ vecsOf la) s0.heap 0
  rw [hn] at hbl
  have I := Inv.items h hd la xu ls _ e I0
    (fun i l hl => by
      show src ((baseHeapFrom hd ks (boxesOf la ++ vecsOf la) s0.heap 0).length + i) = l
      rw [hbl]
      show (if n0 + i < n0 then _ else _) = _
      rw [if_neg (by omega), Nat.add_sub_cancel_left, hl]; rfl)
    (fun i o ho => by
      show β'[(baseHeapFrom hd ks (boxesOf la ++ vecsOf la) s0.heap 0).length + i]? = o
      rw [hbl]; exact hβ2 i o ho)
    (fun l hl => by
      have hln : l < n0 := by
        rcases List.mem_append.1 hl with hb | hb
        · obtain ⟨_, _, _, q, _⟩ := ok.bx l hb; omega
        · have := (ok.vc l hb).1; omega
      exact ⟨hsrc0 l hln, hβ l hln, by show l < (baseHeapFrom hd ks (boxesOf la ++ vecsOf la) s0.heap 0).length; rw [hbl]; exact hln⟩)
    (fun l hl => by
      obtain ⟨T, cs, cs', q, g1, g2, g3⟩ := ok.bx l hl
      obtain ⟨f, hfs⟩ := hat_eq g1 (by simp)
      refine ⟨T, cs.map fun _ => .junk, ?_⟩
      show hat (baseHeapFrom hd ks (boxesOf la ++ vecsOf la) s0.heap 0) l = _
      unfold hat
      rw [base_get, hfs]
      simp only [Option.map_some, Nat.zero_add, baseObj]
      rw [if_neg (fun hk => (ok.kk l (by simpa using hk)).2 (by simp [hl])), if_pos (by simp [hl])]
      rfl)
    (fun l hl hv => by
      obtain ⟨T, cs, cs', q, g1, g2, g3⟩ := ok.bx l hl
      obtain ⟨_, hx⟩ := ok.vc l hv
      rw [g1] at hx; simp [AObj.whole] at hx)
  obtain ⟨I, hil⟩ := I
  have hil : (encL hd la xu (junkAll D s0.tmps, baseHeapFrom hd ks (boxesOf la ++ vecsOf la) s0.heap 0)).2.length = n0 + ls.length := by
    rw [hil]; show (baseHeapFrom hd ks (boxesOf la ++ vecsOf la) s0.heap 0).length + _ = _; rw [hbl]
  refine ⟨β', ?_, ?_⟩
  · refine h.weaken _ β' src ?_ ?_ ?_ ?_ ?_ ?_ ?_ ?_
    · simp only [enc, KT.up_down]; rw [hil, hβ3]
    · simp only [enc, KT.up_down]; exact I.tl
    · exact hmk.symm
    · intro l hl
      simp only [enc, KT.up_down]
      refine ⟨I.im l (.inl hl), hβ l ?_⟩
      have := (List.getElem?_eq_some_iff.1 (hf.mks l ((hAM l).1 (.inl hl)))).1
      omega
    · intro i x hx
      simp only [enc, KT.up_down] at hx
      exact I.it i x hx
    · intro j o hj
      simp only [enc, KT.up_down] at hj
      exact I.io j o hj
    · intro j j' l o o' hj hj' ho ho' g g'
      simp only [enc, KT.up_down] at hj hj'
      have hdead : ∀ (i : Nat) (p : Bool × AObj), (encL hd la xu (junkAll D s0.tmps, baseHeapFrom hd ks (boxesOf la ++ vecsOf la) s0.heap 0)).2[i]? = some p → p.2 ≠ .dead → i < n0 → i ∉ ks := by
        intro i p hp hne hi hk
        rw [encL_keep la _ _ (by show i < (baseHeapFrom hd ks (boxesOf la ++ vecsOf la) s0.heap 0).length; omega) (ok.kk i hk).2] at hp
        have hp : (baseHeapFrom hd ks (boxesOf la ++ vecsOf la) s0.heap 0)[i]? = some p := hp
        rw [base_get] at hp
        cases h0 : s0.heap[i]? with
        | none => simp [h0] at hp
        | some q =>
          simp only [h0, Option.map_some, Option.some.injEq, Nat.zero_add, baseObj] at hp
          rw [if_pos (by simpa using hk)] at hp
          subst hp; exact hne rfl
      have inls : ∀ i, ¬ i < n0 → src i = some l → ls[i - n0]? = some (some l) := by
        intro i hi hs
        have hs : (if i < n0 then some i else (ls[i - n0]?).join) = some l := hs
        rw [if_neg hi] at hs
        cases hh : ls[i - n0]? with
        | none => simp [hh] at hs
        | some q => simp [hh] at hs; rw [hs]
      have low : ∀ i, i < n0 → src i = some l → i = l := fun i hi hs => by
        rw [hsrc0 i hi] at hs; simpa using hs
      by_cases h1 : j < n0 <;> by_cases h2 : j' < n0
      · rw [low j h1 g, low j' h2 g']
      · have e1 := low j h1 g
        rcases ok.ow l (List.mem_of_getElem? (inls j' h2 g')) with hk | hk
        · exact absurd (e1 ▸ hk) (hdead j o hj ho h1)
        · omega
      · have e1 := low j' h2 g'
        rcases ok.ow l (List.mem_of_getElem? (inls j h1 g)) with hk | hk
        · exact absurd (e1 ▸ hk) (hdead j' o' hj' ho' h2)
        · omega
      · have := nodupO_inj ok.nd (inls j h1 g) (inls j' h2 g')
        omega
    · intro f hff
      refine ⟨fun l hl => ?_, fun i x hx v hv => TV.R_pre hβ (by have := hf.frm f hff i x hx; rwa [hn] at this) hv⟩
      simp only [enc, KT.up_down]
      have ham : AllMarks C s l := .inr ⟨f, hff, hl⟩
      refine ⟨I.im l ham, hβ l ?_⟩
      have := (List.getElem?_eq_some_iff.1 (hf.mks l ((hAM l).1 ham))).1
      omega
  · intro β0 δ hb hb0
    have : β.take n0 = β0 := by rw [hb, ← hb0]; simp
    exact ⟨(recsOf β la ls).map (fun o => o.getD ⟨0, 0, 0, 0, 0, false, none⟩), by rw [← this]⟩

/-- The new state grows out of the one that it is told over. -/
theorem enc_ext {s0 : AS} {h : Heap} {D ks : List Nat} {la : List Item} {ls : List (Option Nat)} (ok : okL s0.heap h D ks la ls = true) (x : KT (LA.kinds la)) {β0 β' : List Bl} (hb : ∃ δ, β' = β0 ++ δ) :
    Ext (· ∈ D) s0 (enc false s0 D ks la x) β0 β' := by
  have ok := okL_ok ok
  refine ⟨hb, fun i hi => ?_, ?_, ?_, fun l o hl ho => ?_, ⟨[], rfl⟩, fun l hm => ?_⟩
  · show (encL false la _ _).1[i]? = _
    rw [encL_tm la _ _ (fun hh => hi (ok.sl i hh))]
    exact junkAll_tm D _ hi
  · show (encL false la _ _).1.length = _
    rw [encL_tl]; exact junkAll_len _ _
  · show _ ≤ (encL false la _ _).2.length
    refine Nat.le_trans ?_ (encL_le _ _ _)
    show _ ≤ (baseHeapFrom false ks (boxesOf la ++ vecsOf la) s0.heap 0).length
    rw [base_len]; exact Nat.le_refl _
  · have ho : (encL false la _ _).2[l]? = _ := ho
    have := encL_flag la _ _ (by show l < (baseHeapFrom false ks (boxesOf la ++ vecsOf la) s0.heap 0).length; rw [base_len]; exact hl) ho
    have this : (baseHeapFrom false ks (boxesOf la ++ vecsOf la) s0.heap 0)[l]? = some (false, o) := this
    rw [base_get] at this
    cases h0 : s0.heap[l]? with
    | none => simp [h0] at this
    | some p =>
      simp only [h0, Option.map_some, Option.some.injEq, Nat.zero_add, baseObj] at this
      split at this
      · simp at this
      split at this
      · simp at this
      · simp at this
        obtain ⟨e1, e2⟩ := this
        cases p; simp_all
  · have hnk : l ∉ ks := fun hk => by have := (ok.kk l hk).1; simp [hat, hm, AObj.isMark] at this
    have hnb : l ∉ boxesOf la ++ vecsOf la := fun hb => by
      rcases List.mem_append.1 hb with hb | hb
      · obtain ⟨T, cs, _, _, hx, _⟩ := ok.bx l hb; simp [hat, hm] at hx
      · obtain ⟨_, hx⟩ := ok.vc l hb; simp [hat, hm, AObj.whole] at hx
    show (encL false la _ _).2[l]? = _
    rw [encL_keep la _ _ (by show l < (baseHeapFrom false ks (boxesOf la ++ vecsOf la) s0.heap 0).length; rw [base_len]; exact (List.getElem?_eq_some_iff.1 hm).1) hnb]
    show (baseHeapFrom false ks (boxesOf la ++ vecsOf la) s0.heap 0)[l]? = _
    rw [base_get, hm]
    simp only [Option.map_some, Nat.zero_add, baseObj]
    rw [if_neg (by simpa using hnk), if_neg (by simpa using hnb)]
    rfl
end
end Go.Proofs.AM
