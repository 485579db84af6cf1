/- Regions that draw their order: every order. -/
import Derived.Test.YtefekolpfklhdaaAmA23
set_option maxRecDepth 2000
set_option linter.unusedVariables false
set_option linter.unusedSimpArgs false
namespace Go.Proofs.AM
open Go Go.RowKit

section
variable {P : Program} {Γ : Env} {ops : Array Oper}

theorem put1_len (T : List TV) (d : Option Nat) (t : TV) : (put1 T d t).length = T.length := by cases d <;> simp [put1]

theorem puts_len : ∀ (l : List Oper) (ts T : List TV), (puts l ts T).length = T.length
  | [], _, _ => rfl
  | _ :: _, [], _ => rfl
  | o :: l, t :: ts, T => by
    show (puts l ts (put1 T o.dst t)).length = _
    rw [puts_len l, put1_len]

theorem puts_none {d : Nat} : ∀ (l : List Oper) (ts T : List TV), (∀ o ∈ l, o.dst ≠ some d) → (puts l ts T)[d]? = T[d]?
  | [], _, _, _ => rfl
  | _ :: _, [], _, _ => rfl
  | o :: l, t :: ts, T, h => by
    show (puts l ts (put1 T o.dst t))[d]? = _
    rw [puts_none l ts _ (fun o ho => h o (by simp [ho]))]
    have := h o (by simp)
    cases hd : o.dst with
    | none => rfl
    | some d' =>
      simp only [put1]
      rw [List.getElem?_set_ne (fun e => this (by rw [hd, e]))]

theorem puts_some {d : Nat} : ∀ (l : List Oper) (ts T : List TV) (j : Nat) (o : Oper) (t : TV), l[j]? = some o → ts[j]? = some t → o.dst = some d → (∀ j' o', j' ≠ j → l[j']? = some o' → o'.dst ≠ some d) → d < T.length → (puts l ts T)[d]? = some t
  | [], _, _, j, _, _, h, _, _, _, _ => by simp at h
  | _ :: _, [], _, j, _, _, _, h, _, _, _ => by simp at h
  | o :: l, t :: ts, T, 0, o', t', h, h', hd, hu, hl => by
    simp only [List.getElem?_cons_zero, Option.some.injEq] at h h'
    subst h; subst h'
    show (puts l ts (put1 T o.dst t))[d]? = _
    rw [puts_none l ts _ (fun p hp => by
      obtain ⟨q, hq⟩ := List.getElem?_of_mem hp
      exact hu (q + 1) p (by omega) (by simpa using hq))]
    simp [hd, put1, hl]
  | o :: l, t :: ts, T, j + 1, o', t', h, h', hd, hu, hl => by
    show (puts l ts (put1 T o.dst t))[d]? = _
    refine puts_some l ts _ j o' t' (by simpa using h) (by simpa using h') hd (fun j' p hne hp => hu (j' + 1) p (by omega) (by simpa using hp)) ?_
    rw [put1_len]; exact hl

theorem drawInfo_map {Γ : Env} {l : List Oper} {tab : List (List Nat)} : ∀ (r : List Oper) (i : Nat), (drawInfo Γ l tab r i).map (·.1) = r
  | [], _ => rfl
  | o :: r, i => by simp [drawInfo, drawInfo_map r]

theorem Reach.lt (D : DrawP Γ ops) {j i : Nat} (h : Reach ops j i) : j < i := by
  induction h with
  | one ho hj => exact D.dir _ _ ho _ hj
  | step _ ho hj ih => have := D.dir _ _ ho _ hj; omega

/-- What the reckoning in the order of the text has found. -/
structure Ref (P : Program) (Γ : Env) (ops : Array Oper) (s0 : AS) {R : Type} (k : AS → Option R) (r : R) (ts : List TV) (HH : Nat → Heap) : Prop where
  dp : DrawP Γ ops
  len : ts.length = ops.size
  h0 : HH 0 = s0.heap
  fin : k { s0 with tmps := puts ops.toList ts s0.tmps, heap := HH ops.size } = some r
  step : ∀ (i : Nat) (o : Oper), ops[i]? = some o → ∃ lo hid t, ts[i]? = some t ∧ InfoP Γ ops i lo hid ∧
    StepOK P Γ ops o (puts (ops.toList.take i) (ts.take i) s0.tmps) (HH i) (HH (i + 1)) (if hid = true then [] else HH lo) t

theorem adraw_ref {s0 : AS} {R : Type} {k : AS → Option R} {r : R} (e : adraw P Γ ops s0 k = some r) : ∃ ts HH, Ref P Γ ops s0 k r ts HH := by
  unfold adraw at e
  dsimp only at e
  split at e
  rotate_left
  · simp at e
  rename_i hok
  have ht : ∀ i j, j ∈ (cloTab ops.toList []).getD i [] → Reach ops j i := cloTab_ok ops.toList [] rfl (fun i j h => by simp at h)
  have D := drawOK_ok ht hok
  have hinfo := drawInfo_ok (Γ := Γ) ht ops.toList 0 rfl
  obtain ⟨ts, Hn, q1, q2, q3, q4⟩ := trace D.gd (drawInfo Γ ops.toList (cloTab ops.toList []) ops.toList 0) 0 [s0.heap] s0 e rfl rfl
    (fun j o lo hid hj => by
      obtain ⟨h1, h2⟩ := hinfo j o lo hid hj
      refine ⟨h1, ?_⟩
      rcases h2.low with h | ⟨e, p, h, _, _, hr⟩
      · omega
      · have := hr.lt D; omega) (fun g hg => by omega)
  rw [drawInfo_map] at q3 q4
  rw [drawInfo_len] at q1 q2 q3
  refine ⟨ts, fun m => ([s0.heap] ++ Hn).getD m [], D, by rw [q1]; simp, rfl, ?_, fun i o ho => ?_⟩
  · rw [Nat.zero_add] at q3
    simpa using q3
  · have hi : i < ops.size := (Array.getElem?_eq_some_iff.1 ho).1
    have hl : i < (drawInfo Γ ops.toList (cloTab ops.toList []) ops.toList 0).length := by rw [drawInfo_len]; simpa using hi
    obtain ⟨⟨o', lo, hid⟩, hx⟩ : ∃ x, (drawInfo Γ ops.toList (cloTab ops.toList []) ops.toList 0)[i]? = some x := ⟨_, List.getElem?_eq_getElem hl⟩
    obtain ⟨h1, h2⟩ := hinfo i o' lo hid hx
    rw [Nat.zero_add] at h1 h2
    rw [ho] at h1; cases h1
    have hts : i < ts.length := by rw [q1]; simpa using hi
    have := q4 i o lo hid _ hx (List.getElem?_eq_getElem hts)
    rw [Nat.zero_add] at this
    exact ⟨lo, hid, _, List.getElem?_eq_getElem hts, h2, this⟩
end

section
variable {P : Program} {Γ : Env} {ops : Array Oper} {s0 : AS} {R : Type} {k : AS → Option R} {r : R} {ts : List TV} {HH : Nat → Heap}

theorem Ref.same (H : Ref P Γ ops s0 k r ts HH) {a : Nat} : ∀ (b : Nat), a ≤ b → b ≤ ops.size → (∀ j o, a ≤ j → j < b → ops[j]? = some o → isEff Γ o = false) → HH a = HH b
  | 0, h, _, _ => by simp at h; rw [h]
  | b + 1, h, hb, hj => by
    by_cases e : a = b + 1
    · rw [e]
    · have ih := H.same b (by omega) (by omega) (fun j o h1 h2 h3 => hj j o h1 (by omega) h3)
      obtain ⟨lo, hid, t, _, _, hs⟩ := H.step b ops[b] (Array.getElem?_eq_getElem (by omega))
      rw [ih, hs.same (hj b _ (by omega) (by omega) (Array.getElem?_eq_getElem (by omega)))]

theorem Ref.pre (H : Ref P Γ ops s0 k r ts HH) {a : Nat} : ∀ (b : Nat), a ≤ b → b ≤ ops.size → (∀ j o, a ≤ j → j < b → ops[j]? = some o → isEff Γ o = true → isPush Γ o = true) → ∃ δ, HH b = HH a ++ δ
  | 0, h, _, _ => ⟨[], by simp at h; simp [h]⟩
  | b + 1, h, hb, hj => by
    by_cases e : a = b + 1
    · exact ⟨[], by simp [e]⟩
    · obtain ⟨δ, ih⟩ := H.pre b (by omega) (by omega) (fun j o h1 h2 h3 => hj j o h1 (by omega) h3)
      obtain ⟨lo, hid, t, _, _, hs⟩ := H.step b ops[b] (Array.getElem?_eq_getElem (by omega))
      cases he : isEff Γ ops[b] with
      | false => exact ⟨δ, by rw [hs.same he, ih]⟩
      | true =>
        obtain ⟨δ', h'⟩ := hs.push he (hj b _ (by omega) (by omega) (Array.getElem?_eq_getElem (by omega)) he)
        exact ⟨δ ++ δ', by rw [h', ih, List.append_assoc]⟩

def Cl (ops : Array Oper) (L : Array Bool) : Prop := ∀ (i : Nat) (o : Oper), ops[i]? = some o → L.getD i false = true → ∀ j ∈ dirs o, L.getD j false = true

theorem Cl.reach {L : Array Bool} (h : Cl ops L) {j i : Nat} (hr : Reach ops j i) : L.getD i false = true → L.getD j false = true := by
  induction hr with
  | one ho hj => exact fun hi => h _ _ ho hi _ hj
  | step _ ho hj ih => exact fun hi => ih (h _ _ ho hi _ hj)

/-- The state in which some operations are done. -/
structure SI (Γ : Env) (ops : Array Oper) (s0 : AS) (ts : List TV) (HH : Nat → Heap) (L : Array Bool) (s : AS) : Prop where
  len : s.tmps.length = s0.tmps.length
  done : ∀ (j : Nat) (o : Oper) (d : Nat) (t : TV), ops[j]? = some o → L.getD j false = true → o.dst = some d → ts[j]? = some t → d < s0.tmps.length → s.tmps[d]? = some t
  rest : ∀ (d : Nat), (∀ (j : Nat) (o : Oper), ops[j]? = some o → L.getD j false = true → o.dst ≠ some d) → s.tmps[d]? = s0.tmps[d]?
  mrk : s.marks = s0.marks
  heap : ∃ m, m ≤ ops.size ∧ s.heap = HH m ∧ ∀ (j : Nat) (o : Oper), ops[j]? = some o → isEff Γ o = true → (L.getD j false = true ↔ j < m)

theorem SI.final (H : Ref P Γ ops s0 k r ts HH) {L : Array Bool} {s : AS} (S : SI Γ ops s0 ts HH L s) (hall : ∀ j, j < ops.size → L.getD j false = true) : k s = some r := by
  have e : s = { s0 with tmps := puts ops.toList ts s0.tmps, heap := HH ops.size } := by
    obtain ⟨m, h1, h2, h3⟩ := S.heap
    have hh : HH m = HH ops.size := H.same ops.size h1 (Nat.le_refl _) (fun j o g1 g2 g3 => by
      cases he : isEff Γ o with
      | false => rfl
      | true => have := (h3 j o g3 he).1 (hall j g2); omega)
    have ht : s.tmps = puts ops.toList ts s0.tmps := by
      apply List.ext_getElem?
      intro d
      by_cases hd : d < s0.tmps.length
      · by_cases hx : ∃ (j : Nat) (o : Oper), ops[j]? = some o ∧ o.dst = some d
        · obtain ⟨j, o, ho, hdo⟩ := hx
          have hj : j < ops.size := (Array.getElem?_eq_some_iff.1 ho).1
          have htj : ts[j]? = some (ts[j]'(by rw [H.len]; exact hj)) := List.getElem?_eq_getElem _
          rw [S.done j o d _ ho (hall j hj) hdo htj hd]
          symm
          refine puts_some _ _ _ j o _ (by simpa using ho) htj hdo (fun j' o' hne ho' hd' => ?_) hd
          exact hne (H.dp.dst j' j o' o d (by simpa using ho') ho hd' hdo)
        · rw [S.rest d (fun j o ho _ hdo => hx ⟨j, o, ho, hdo⟩)]
          rw [puts_none _ _ _ (fun o ho hdo => by
            obtain ⟨j, hj⟩ := List.getElem?_of_mem ho
            exact hx ⟨j, o, by simpa using hj, hdo⟩)]
      · rw [List.getElem?_eq_none (by have := S.len; omega), List.getElem?_eq_none (by rw [puts_len]; omega)]
    have hm := S.mrk
    cases s
    simp_all
  rw [e]; exact H.fin

theorem SI.like (H : Ref P Γ ops s0 k r ts HH) {L : Array Bool} {s : AS} (S : SI Γ ops s0 ts HH L s) (hcl : Cl ops L) {i : Nat} {o : Oper} (ho : ops[i]? = some o) (hi : L.getD i false = false) (hd : ∀ j ∈ dirs o, L.getD j false = true) :
    LikeT ops o (puts (ops.toList.take i) (ts.take i) s0.tmps) s.tmps := by
  have hreach : ∀ {j : Nat}, Reach ops j i → L.getD j false = true := by
    intro j hr
    cases hr with
    | one ho' hj => rw [ho] at ho'; cases ho'; exact hd _ hj
    | step hr' ho' hj => rw [ho] at ho'; cases ho'; exact hcl.reach hr' (hd _ hj)
  have htake : ∀ (j : Nat) (o' : Oper), (ops.toList.take i)[j]? = some o' → j < i ∧ ops[j]? = some o' := fun j o' h => by
    rw [List.getElem?_take] at h
    split at h
    · exact ⟨by assumption, by simpa using h⟩
    · simp at h
  intro d hdl
  rcases Nat.lt_or_ge d s0.tmps.length with hlen | hlen
  rotate_left
  · rw [List.getElem?_eq_none (by have := S.len; omega), List.getElem?_eq_none (by rw [puts_len]; omega)]
  by_cases hx : ∃ (j : Nat) (p : Oper), ops[j]? = some p ∧ p.dst = some d
  · obtain ⟨j, p, hp, hdp⟩ := hx
    have uniq : ∀ (j' : Nat) (p' : Oper), ops[j']? = some p' → p'.dst = some d → j' = j := fun j' p' h1 h2 => H.dp.dst j' j p' p d h1 hp h2 hdp
    have undone : L.getD j false = false → i ≤ j → s.tmps[d]? = (puts (ops.toList.take i) (ts.take i) s0.tmps)[d]? := by
      intro hL hij
      rw [S.rest d (fun j' o' h1 h2 h3 => by rw [uniq j' o' h1 h3, hL] at h2; simp at h2)]
      rw [puts_none _ _ _ (fun o' ho' hd' => by
        obtain ⟨j', hj'⟩ := List.getElem?_of_mem ho'
        obtain ⟨g1, g2⟩ := htake j' o' hj'
        have := uniq j' o' g2 hd'
        omega)]
    rcases H.dp.look i j o p d ho hp hdp hdl with rfl | hr | hr
    · exact undone hi (Nat.le_refl _)
    · have hj := hr.lt H.dp
      have hjs : j < ts.length := by rw [H.len]; exact (Array.getElem?_eq_some_iff.1 hp).1
      have htj : ts[j]? = some ts[j] := List.getElem?_eq_getElem hjs
      rw [S.done j p d _ hp (hreach hr) hdp htj hlen]
      symm
      refine puts_some _ _ _ j p _ ?_ ?_ hdp (fun j' o' hne ho' hd' => ?_) hlen
      · rw [List.getElem?_take]; simp [hj]; simpa using hp
      · rw [List.getElem?_take]; simp [hj]
      · exact hne (uniq j' o' (htake j' o' ho').2 hd')
    · have hj := hr.lt H.dp
      refine undone ?_ (Nat.le_of_lt hj)
      cases hL : L.getD j false with
      | false => rfl
      | true => have := hcl.reach hr hL; rw [hi] at this; simp at this
  · rw [S.rest d (fun j o ho _ hdo => hx ⟨j, o, ho, hdo⟩)]
    rw [puts_none _ _ _ (fun o' ho' hd' => by
      obtain ⟨j', hj'⟩ := List.getElem?_of_mem ho'
      exact hx ⟨j', o', (htake j' o' hj').2, hd'⟩)]

/-- One operation more. -/
theorem SI.next (H : Ref P Γ ops s0 k r ts HH) {L : Array Bool} {s : AS} (S : SI Γ ops s0 ts HH L s) (hcl : Cl ops L) (hsz : L.size = ops.size) {i : Nat} {o : Oper} (ho : ops[i]? = some o) (hi : L.getD i false = false) (hd : ∀ j ∈ dirs o, L.getD j false = true) :
    ∃ s', aop P Γ ops o s some = some s' ∧ SI Γ ops s0 ts HH (L.setIfInBounds i true) (anormAt s' o.dst) := by
  have hreach : ∀ {j : Nat}, Reach ops j i → L.getD j false = true := by
    intro j hr
    cases hr with
    | one ho' hj => rw [ho] at ho'; cases ho'; exact hd _ hj
    | step hr' ho' hj => rw [ho] at ho'; cases ho'; exact hcl.reach hr' (hd _ hj)
  have hin : i < ops.size := (Array.getElem?_eq_some_iff.1 ho).1
  have like := S.like H hcl ho hi hd
  obtain ⟨lo, hid, t, ht, hinf, hs⟩ := H.step i o ho
  obtain ⟨t', hn, hE, hR⟩ := hs.ex
  have hset : ∀ j, (L.setIfInBounds i true).getD j false = true ↔ (j = i ∨ L.getD j false = true) := by
    intro j
    by_cases e : i = j
    · subst e
      simp [hsz, hin]
    · have : (L.setIfInBounds i true).getD j false = L.getD j false := by simp [Array.getElem?_setIfInBounds_ne e]
      rw [this]
      constructor
      · exact .inr
      · rintro (h | h)
        · exact absurd h.symm e
        · exact h
  -- the slots
  have core : ∀ (h' : Heap), (∃ m, m ≤ ops.size ∧ h' = HH m ∧ ∀ (j : Nat) (p : Oper), ops[j]? = some p → isEff Γ p = true → ((L.setIfInBounds i true).getD j false = true ↔ j < m)) →
      SI Γ ops s0 ts HH (L.setIfInBounds i true) (anormAt (({ s with heap := h' } : AS).put o.dst t') o.dst) := by
    intro h' hheap
    rw [anormAt_put, hn]
    refine ⟨?_, fun j p d t1 hp hL hdp ht1 hlen => ?_, fun d hno => ?_, ?_, ?_⟩
    · rw [put1_put, put1_len]; exact S.len
    · rw [put1_put]
      by_cases e : j = i
      · subst e
        rw [ho] at hp; cases hp
        rw [ht] at ht1; cases ht1
        simp only [hdp, put1]
        rw [List.getElem?_set_self (by rw [S.len]; exact hlen)]
      · have hL' : L.getD j false = true := by
          rcases (hset j).1 hL with h | h
          · exact absurd h e
          · exact h
        have hne : o.dst ≠ some d := fun h => e (H.dp.dst j i p o d hp ho hdp h)
        have : (put1 s.tmps o.dst t)[d]? = s.tmps[d]? := by
          cases hod : o.dst with
          | none => rfl
          | some d' => simp only [put1]; rw [List.getElem?_set_ne (fun h => hne (by rw [hod, h]))]
        rw [this]
        exact S.done j p d t1 hp hL' hdp ht1 hlen
    · rw [put1_put]
      have hne : o.dst ≠ some d := hno i o ho ((hset i).2 (.inl rfl))
      have : (put1 s.tmps o.dst t)[d]? = s.tmps[d]? := by
        cases hod : o.dst with
        | none => rfl
        | some d' => simp only [put1]; rw [List.getElem?_set_ne (fun h => hne (by rw [hod, h]))]
      rw [this]
      exact S.rest d (fun j p hp hL => hno j p hp ((hset j).2 (.inr hL)))
    · rw [put_marks]; exact S.mrk
    · rw [put_heap]; exact hheap
  obtain ⟨m, hm1, hm2, hm3⟩ := S.heap
  cases he : isEff Γ o with
  | true =>
    -- between m and i no effect
    have hmi : m ≤ i := by
      cases Nat.lt_or_ge i m with
      | inl h => have := (hm3 i o ho he).2 h; rw [hi] at this; simp at this
      | inr h => exact h
    have hh : s.heap = HH i := by
      rw [hm2]
      refine H.same i hmi (Nat.le_of_lt hin) (fun j p g1 g2 g3 => ?_)
      cases hep : isEff Γ p with
      | false => rfl
      | true =>
        have := (hm3 j p g3 hep).1 (hreach (H.dp.eff j i p o g3 ho hep he g2))
        omega
    refine ⟨_, hE he s like hh AS some, core _ ⟨i + 1, hin, rfl, fun j p hp hep => ?_⟩⟩
    rw [hset]
    constructor
    · rintro (h | h)
      · omega
      · have := (hm3 j p hp hep).1 h; omega
    · intro h
      by_cases e : j = i
      · exact .inl e
      · exact .inr (hreach (H.dp.eff j i p o hp ho hep he (by omega)))
  | false =>
    have hsub : Sub (if hid = true then [] else HH lo) s.heap := by
      cases hh : hid with
      | true => exact Sub.nil _
      | false =>
        simp only [Bool.false_eq_true, if_false]
        have hlm : lo ≤ m := by
          rcases hinf.low with h | ⟨e, p, h, hp, hep, hr⟩
          · omega
          · have := (hm3 e p hp hep).1 (hreach hr); omega
        obtain ⟨δ, hδ⟩ := H.pre m hlm hm1 (fun j p g1 g2 g3 g4 => by
          rcases hinf.hide hh j p g3 g4 g1 with h | h | h
          · exact h
          · have := hcl.reach h ((hm3 j p g3 g4).2 g2); rw [hi] at this; simp at this
          · subst h; rw [ho] at g3; cases g3; rw [he] at g4; simp at g4)
        rw [hm2, hδ]
        exact Sub.app _ _
    refine ⟨_, hR he s like hsub AS some, ?_⟩
    have : s = { s with heap := s.heap } := rfl
    rw [this]
    refine core s.heap ⟨m, hm1, hm2, fun j p hp hep => ?_⟩
    rw [hset]
    constructor
    · rintro (h | h)
      · subst h; rw [ho] at hp; cases hp; rw [he] at hep; simp at hep
      · exact (hm3 j p hp hep).1 h
    · exact fun h => .inr ((hm3 j p hp hep).2 h)
end
end Go.Proofs.AM
