/- Regions that draw their order: the reckoning, and what it says of each operation. -/
import Derived.Test.YtefekolpfklhdaaAmA21
import Derived.OrdersIn
set_option maxRecDepth 2000
set_option linter.unusedVariables false
set_option linter.unusedSimpArgs false
namespace Go.Proofs.AM
open Go Go.RowKit

def anorm : TV → TV
  | .one (.dat .bool b _) => litTV b
  | t => t

def anormAt (s : AS) : Option Nat → AS
  | none => s
  | some d => match s.tmps[d]? with
    | some t => { s with tmps := s.tmps.set d (anorm t) }
    | none => s

theorem anormAt_put (s : AS) (d : Option Nat) (t : TV) : anormAt (s.put d t) d = s.put d (anorm t) := by
  cases d with
  | none => rfl
  | some d =>
    simp only [AS.put, anormAt]
    by_cases hl : d < s.tmps.length
    · simp [hl]
    · simp [hl, List.set_eq_of_length_le (Nat.le_of_not_lt hl)]

theorem anorm_R {w : World} {N Nf : Nat → Prop} {β : List Bl} {t : TV} {v : Value} (h : t.R w N Nf β v) : (anorm t).R w N Nf β v := by
  unfold anorm
  split
  · rename_i b f
    have : v = .bool b := by simpa [TV.R, AV.R, K.rd] using h
    subst this
    simp [litTV, TV.R, AV.R, K.rd]
  · exact h

theorem anorm_lit {t : TV} {b f : Bool} (e : anorm t = .one (.dat .bool b f)) : f = true := by
  unfold anorm at e
  split at e
  · simp [litTV] at e; exact e.2
  · rename_i hne
    exact absurd e (hne b f)

/-! ### what comes ahead of what -/
def dirs (o : Oper) : List Nat := (o.after.toList.filter fun e => Region.binds .any e).map Edge.on

inductive Reach (ops : Array Oper) : Nat → Nat → Prop
  | one {i j : Nat} {o : Oper} : ops[i]? = some o → j ∈ dirs o → Reach ops j i
  | step {i j m : Nat} {o : Oper} : Reach ops m j → ops[i]? = some o → j ∈ dirs o → Reach ops m i

def dd : List Nat → List Nat
  | [] => []
  | x :: l => if (dd l).contains x then dd l else x :: dd l

theorem dd_mem {x : Nat} : ∀ {l : List Nat}, x ∈ dd l → x ∈ l
  | [], h => h
  | y :: l, h => by
    unfold dd at h
    split at h
    · exact List.mem_cons_of_mem _ (dd_mem h)
    · rcases List.mem_cons.1 h with rfl | h
      · simp
      · exact List.mem_cons_of_mem _ (dd_mem h)

def cloTab : List Oper → List (List Nat) → List (List Nat)
  | [], tab => tab
  | o :: l, tab => cloTab l (tab ++ [dd (dirs o ++ (dirs o).flatMap fun j => tab.getD j [])])

theorem cloTab_ok {ops : Array Oper} : ∀ (l : List Oper) (tab : List (List Nat)), ops.toList.drop tab.length = l →
    (∀ i j, j ∈ tab.getD i [] → Reach ops j i) → ∀ i j, j ∈ (cloTab l tab).getD i [] → Reach ops j i
  | [], tab, _, h, i, j, hm => h i j hm
  | o :: l, tab, hl, h, i, j, hm => by
    have ho : ops[tab.length]? = some o := by
      have : (ops.toList.drop tab.length)[0]? = some o := by rw [hl]; rfl
      simpa using this
    refine cloTab_ok l _ ?_ ?_ i j hm
    · have : (ops.toList.drop tab.length).drop 1 = l := by rw [hl]; rfl
      rw [List.drop_drop] at this
      simpa using this
    · intro i j hm
      by_cases hi : i < tab.length
      · rw [List.getD_eq_getElem?_getD, List.getElem?_append_left hi, ← List.getD_eq_getElem?_getD] at hm
        exact h i j hm
      · rw [List.getD_eq_getElem?_getD, List.getElem?_append_right (by omega)] at hm
        by_cases hi' : i = tab.length
        · subst hi'
          simp only [Nat.sub_self, List.getElem?_cons_zero, Option.getD_some] at hm
          rcases List.mem_append.1 (dd_mem hm) with hm | hm
          · exact .one ho hm
          · obtain ⟨q, hq, hm⟩ := List.mem_flatMap.1 hm
            exact .step (h q j hm) ho hq
        · have : i - tab.length ≠ 0 := by omega
          obtain ⟨q, hq⟩ : ∃ q, i - tab.length = q + 1 := ⟨i - tab.length - 1, by omega⟩
          rw [hq] at hm
          simp at hm

def effAt (Γ : Env) (l : List Oper) (j : Nat) : Bool := match l[j]? with
  | some o => isEff Γ o
  | none => false
def pushAt (Γ : Env) (l : List Oper) (j : Nat) : Bool := match l[j]? with
  | some o => isPush Γ o
  | none => false

def drawOK (Γ : Env) (l : List Oper) (ops : Array Oper) (tab : List (List Nat)) : Bool :=
  (List.range l.length).all fun i => match l[i]? with
    | none => false
    | some o =>
      (dirs o).all (fun j => decide (j < i)) &&
      (match o.guard with
        | none => true
        | some (g, _) => decide (g < i)) &&
      (List.range l.length).all fun j => match l[j]? with
        | none => false
        | some p =>
          (match p.dst with
            | none => true
            | some d => (i == j || o.dst != some d) && (!(o.looksAt ops).contains d || i == j || (tab.getD i []).contains j || (tab.getD j []).contains i)) &&
          (!(isEff Γ o && isEff Γ p && decide (i < j)) || (tab.getD j []).contains i)

def loOf (Γ : Env) (l : List Oper) : List Nat → Nat
  | [] => 0
  | j :: t => if effAt Γ l j && decide (loOf Γ l t ≤ j) then j + 1 else loOf Γ l t

def hidOf (Γ : Env) (l : List Oper) (tab : List (List Nat)) (i lo : Nat) : Bool :=
  (List.range l.length).any fun j => effAt Γ l j && decide (lo ≤ j) && !pushAt Γ l j && !(tab.getD j []).contains i && j != i

def drawInfo (Γ : Env) (l : List Oper) (tab : List (List Nat)) : List Oper → Nat → List (Oper × Nat × Bool)
  | [], _ => []
  | o :: r, i => (o, loOf Γ l (tab.getD i []), hidOf Γ l tab i (loOf Γ l (tab.getD i []))) :: drawInfo Γ l tab r (i + 1)

structure DrawP (Γ : Env) (ops : Array Oper) : Prop where
  dir : ∀ (i : Nat) (o : Oper), ops[i]? = some o → ∀ j ∈ dirs o, j < i
  gd : ∀ (i : Nat) (o : Oper) (g : Nat) (b : Bool), ops[i]? = some o → o.guard = some (g, b) → g < i
  dst : ∀ (i j : Nat) (o p : Oper) (d : Nat), ops[i]? = some o → ops[j]? = some p → o.dst = some d → p.dst = some d → i = j
  look : ∀ (i j : Nat) (o p : Oper) (d : Nat), ops[i]? = some o → ops[j]? = some p → p.dst = some d → d ∈ o.looksAt ops → i = j ∨ Reach ops j i ∨ Reach ops i j
  eff : ∀ (i j : Nat) (o p : Oper), ops[i]? = some o → ops[j]? = some p → isEff Γ o = true → isEff Γ p = true → i < j → Reach ops i j

theorem drawOK_ok {Γ : Env} {ops : Array Oper} {tab : List (List Nat)} (ht : ∀ i j, j ∈ tab.getD i [] → Reach ops j i) (h : drawOK Γ ops.toList ops tab = true) : DrawP Γ ops := by
  unfold drawOK at h
  simp only [List.all_eq_true, List.mem_range] at h
  have key : ∀ (i : Nat) (o : Oper), ops[i]? = some o → _ := fun i o ho => by
    have hi : i < ops.toList.length := by have := (Array.getElem?_eq_some_iff.1 ho).1; simpa using this
    have := h i hi
    have ho' : ops.toList[i]? = some o := by simpa using ho
    rw [ho'] at this
    exact this
  have key2 : ∀ (i j : Nat) (o p : Oper), ops[i]? = some o → ops[j]? = some p → ((match p.dst with
            | none => true
            | some d => (i == j || o.dst != some d) && (!(o.looksAt ops).contains d || i == j || (tab.getD i []).contains j || (tab.getD j []).contains i)) &&
          (!(isEff Γ o && isEff Γ p && decide (i < j)) || (tab.getD j []).contains i)) = true := fun i j o p ho hp => by
    have := key i o ho
    simp only [Bool.and_eq_true, List.all_eq_true, List.mem_range] at this
    have hj : j < ops.toList.length := by have := (Array.getElem?_eq_some_iff.1 hp).1; simpa using this
    have := this.2 j hj
    have hp' : ops.toList[j]? = some p := by simpa using hp
    rw [hp'] at this
    simpa using this
  refine ⟨fun i o ho j hj => ?_, fun i o g b ho hg => ?_, fun i j o p d ho hp h1 h2 => ?_, fun i j o p d ho hp h1 h2 => ?_, fun i j o p ho hp h1 h2 h3 => ?_⟩
  · have := key i o ho
    simp only [Bool.and_eq_true, List.all_eq_true] at this
    simpa using this.1.1 j hj
  · have := key i o ho
    simp only [Bool.and_eq_true, hg] at this
    simpa using this.1.2
  · have := key2 i j o p ho hp
    simp only [h2, h1, Bool.and_eq_true, Bool.or_eq_true] at this
    simpa using this.1.1
  · have := key2 i j o p ho hp
    simp only [h1, Bool.and_eq_true, Bool.or_eq_true] at this
    rcases this.1.2 with ((hx | hx) | hx) | hx
    · have : (o.looksAt ops).contains d = true := by simpa using h2
      rw [this] at hx; simp at hx
    · left; simpa using hx
    · right; left; exact ht _ _ (by simpa using hx)
    · right; right; exact ht _ _ (by simpa using hx)
  · have := key2 i j o p ho hp
    simp only [h1, h2, h3, Bool.and_eq_true, Bool.or_eq_true] at this
    rcases this.2 with hx | hx
    · simp at hx
    · exact ht _ _ (by simpa using hx)

theorem loOf_ok {Γ : Env} {l : List Oper} : ∀ {t : List Nat}, loOf Γ l t = 0 ∨ ∃ e ∈ t, loOf Γ l t = e + 1 ∧ effAt Γ l e = true
  | [] => .inl rfl
  | j :: t => by
    unfold loOf
    split
    · rename_i h
      simp at h
      exact .inr ⟨j, by simp, rfl, h.1⟩
    · rcases loOf_ok (l := l) (t := t) with h | ⟨e, he, h⟩
      · exact .inl h
      · exact .inr ⟨e, by simp [he], h⟩

structure InfoP (Γ : Env) (ops : Array Oper) (i lo : Nat) (hid : Bool) : Prop where
  low : lo = 0 ∨ ∃ (e : Nat) (p : Oper), lo = e + 1 ∧ ops[e]? = some p ∧ isEff Γ p = true ∧ Reach ops e i
  hide : hid = false → ∀ (j : Nat) (p : Oper), ops[j]? = some p → isEff Γ p = true → lo ≤ j → isPush Γ p = true ∨ Reach ops i j ∨ j = i

theorem drawInfo_len {Γ : Env} {l : List Oper} {tab : List (List Nat)} : ∀ (r : List Oper) (i : Nat), (drawInfo Γ l tab r i).length = r.length
  | [], _ => rfl
  | o :: r, i => by simp [drawInfo, drawInfo_len r]

theorem drawInfo_ok {Γ : Env} {ops : Array Oper} {tab : List (List Nat)} (ht : ∀ i j, j ∈ tab.getD i [] → Reach ops j i) : ∀ (r : List Oper) (i : Nat), ops.toList.drop i = r →
    ∀ (j : Nat) (o : Oper) (lo : Nat) (hid : Bool), (drawInfo Γ ops.toList tab r i)[j]? = some (o, lo, hid) → ops[i + j]? = some o ∧ InfoP Γ ops (i + j) lo hid
  | [], i, _, j, o, lo, hid, h => by simp [drawInfo] at h
  | q :: r, i, hr, 0, o, lo, hid, h => by
    have ho : ops[i]? = some q := by
      have : (ops.toList.drop i)[0]? = some q := by rw [hr]; rfl
      simpa using this
    simp only [drawInfo, List.getElem?_cons_zero, Option.some.injEq, Prod.mk.injEq] at h
    obtain ⟨rfl, rfl, rfl⟩ := h
    refine ⟨ho, ?_, fun hh j p hp he hl => ?_⟩
    · rcases loOf_ok (Γ := Γ) (l := ops.toList) (t := tab.getD i []) with h | ⟨e, he, h, hf⟩
      · exact .inl h
      · unfold effAt at hf
        split at hf
        · rename_i p hp
          exact .inr ⟨e, p, h, by simpa using hp, hf, ht _ _ he⟩
        · simp at hf
    · unfold hidOf at hh
      rw [List.any_eq_false] at hh
      have hj : j < ops.toList.length := by have := (Array.getElem?_eq_some_iff.1 hp).1; simpa using this
      have := hh j (List.mem_range.2 hj)
      have hp' : ops.toList[j]? = some p := by simpa using hp
      simp only [effAt, pushAt, hp', he] at this
      simp only [Nat.add_zero] at hl ⊢
      by_cases h1 : isPush Γ p = true
      · exact .inl h1
      · right
        by_cases h2 : j = i
        · exact .inr h2
        · left
          have h1' : isPush Γ p = false := by simpa using h1
          simp only [h1', hl, decide_true, Bool.and_true, Bool.not_false, Bool.true_and] at this
          have : (tab.getD j []).contains i = true := by
            by_cases hc : (tab.getD j []).contains i = true
            · exact hc
            · exfalso; apply this
              have hc' : (tab.getD j []).contains i = false := by simpa using hc
              rw [hc']; simpa using h2
          exact ht _ _ (by simpa using this)
  | q :: r, i, hr, j + 1, o, lo, hid, h => by
    have hr' : ops.toList.drop (i + 1) = r := by
      have : (ops.toList.drop i).drop 1 = r := by rw [hr]; rfl
      rwa [List.drop_drop] at this
    have := drawInfo_ok ht r (i + 1) hr' j o lo hid h
    rwa [show i + 1 + j = i + (j + 1) by omega] at this

/-! ### the reckoning -/
section
variable {R : Type}

def adrs (P : Program) (Γ : Env) (ops : Array Oper) : List (Oper × Nat × Bool) → List Heap → AS → (AS → Option R) → Option R
  | [], _, s, k => k s
  | (o, lo, hid) :: l, Hs, s, k =>
    if isEff Γ o = true then aop P Γ ops o s fun s' => adrs P Γ ops l (Hs ++ [s'.heap]) (anormAt s' o.dst) k
    else aop P Γ ops o { s with heap := if hid = true then [] else Hs.getD lo [] } fun s' => adrs P Γ ops l (Hs ++ [s.heap]) (anormAt { s' with heap := s.heap } o.dst) k

def adraw (P : Program) (Γ : Env) (ops : Array Oper) (s : AS) (k : AS → Option R) : Option R :=
  let l := ops.toList
  let tab := cloTab l []
  if drawOK Γ l ops tab = true then adrs P Γ ops (drawInfo Γ l tab l 0) [s.heap] s k else none
end

/-! ### an operation, carried out or not, in two states -/
def LikeT (ops : Array Oper) (o : Oper) (T T' : List TV) : Prop := ∀ d ∈ o.looksAt ops, T'[d]? = T[d]?

section
variable {P : Program} {Γ : Env} {ops : Array Oper} {r s : AS} {o : Oper}

theorem LikeT.like (h : LikeT ops o r.tmps s.tmps) : Like o r s := by
  intro x hx
  cases x with
  | tmp t =>
    have := h t (List.mem_append_left _ (List.mem_filterMap.2 ⟨.tmp t, by simpa using hx, rfl⟩))
    simp only [AS.ev, this]
  | _ => rfl

theorem LikeT.guard (h : LikeT ops o r.tmps s.tmps) {j : Nat} {b : Bool} {d : Nat} (hg : o.guard = some (j, b)) (hd : gslot ops j = some d) : s.tmps[d]? = r.tmps[d]? := by
  refine h d (List.mem_append_right _ ?_)
  simp only [hg]
  unfold gslot at hd
  split at hd
  · rename_i p hp
    simp [hp, hd]
  · simp at hd

theorem put_same {d : Nat} {t : TV} (h : r.tmps[d]? = some t) : r.put (some d) t = r := by
  simp only [AS.put]
  have : r.tmps.set d t = r.tmps := by
    apply List.ext_getElem?
    intro i
    by_cases e : d = i
    · subst e
      have hl := (List.getElem?_eq_some_iff.1 h).1
      rw [List.getElem?_set_self hl, h]
    · rw [List.getElem?_set_ne e]
  rw [this]

/-- What is known of the slots that guards look at. -/
def Lits (ops : Array Oper) (o : Oper) (T : List TV) : Prop := ∀ (j : Nat) (b : Bool) (d : Nat), o.guard = some (j, b) → gslot ops j = some d → ∀ c f, T[d]? = some (.one (.dat .bool c f)) → f = true

theorem aop_read (hn : isEff Γ o = false) (hl : Lits ops o r.tmps) {R : Type} {k : AS → Option R} {x : R} (e : aop P Γ ops o r k = some x) :
    ∃ t, k (r.put o.dst t) = some x ∧ ∀ s, LikeT ops o r.tmps s.tmps → Sub r.heap s.heap → ∀ (R' : Type) (k' : AS → Option R'), aop P Γ ops o s k' = k' (s.put o.dst t) := by
  unfold aop at e
  split at e
  · rename_i hg
    obtain ⟨t, h1, h2⟩ := step_read hn e
    refine ⟨t, h1, fun s hk hs R' k' => ?_⟩
    unfold aop
    simp only [hg]
    exact h2 s hk.like hs R' k'
  · rename_i j want hg
    split at e
    · simp at e
    rename_i d hd
    split at e
    · rename_i b f hb
      have hf := hl j want d hg hd b f hb
      subst hf
      have hsame : r.put (some d) (litTV b) = r := put_same hb
      cases hw : (b == want)
      · have e' : k (r.put o.dst undefTV) = some x := by
          cases b <;> cases want <;> simp at hw <;> simpa [hsame] using e
        refine ⟨undefTV, e', fun s hk hs R' k' => ?_⟩
        unfold aop
        have hb' : s.tmps[d]? = some (.one (.dat .bool b true)) := by rw [hk.guard hg hd, hb]
        have hsame' : s.put (some d) (litTV b) = s := put_same hb'
        simp only [hg, hd, hb']
        cases b <;> cases want <;> simp at hw <;> simp [hsame']
      · have e' : astep P Γ r o k = some x := by
          cases b <;> cases want <;> simp at hw <;> simpa [hsame] using e
        obtain ⟨t, h1, h2⟩ := step_read hn e'
        refine ⟨t, h1, fun s hk hs R' k' => ?_⟩
        unfold aop
        have hb' : s.tmps[d]? = some (.one (.dat .bool b true)) := by rw [hk.guard hg hd, hb]
        have hsame' : s.put (some d) (litTV b) = s := put_same hb'
        simp only [hg, hd, hb']
        have := h2 s hk.like hs R' k'
        cases b <;> cases want <;> simp at hw <;> simpa [hsame'] using this
    · rename_i hb
      refine ⟨undefTV, e, fun s hk hs R' k' => ?_⟩
      unfold aop
      have hb' : s.tmps[d]? = some (.tup []) := by rw [hk.guard hg hd, hb]
      simp only [hg, hd, hb']
    · simp at e

theorem aop_eff (hn : isEff Γ o = true) (hl : Lits ops o r.tmps) {R : Type} {k : AS → Option R} {x : R} (e : aop P Γ ops o r k = some x) :
    ∃ t h', k ({ r with heap := h' }.put o.dst t) = some x ∧ (isPush Γ o = true → ∃ δ, h' = r.heap ++ δ) ∧
      ∀ s : AS, LikeT ops o r.tmps s.tmps → s.heap = r.heap → ∀ (R' : Type) (k' : AS → Option R'), aop P Γ ops o s k' = k' ({ s with heap := h' }.put o.dst t) := by
  unfold aop at e
  split at e
  · rename_i hg
    obtain ⟨t, h', h1, h2, h3⟩ := eff_two hn e
    refine ⟨t, h', h1, h2, fun s hk hs R' k' => ?_⟩
    unfold aop
    simp only [hg]
    exact h3 s hk.like hs R' k'
  · rename_i j want hg
    split at e
    · simp at e
    rename_i d hd
    split at e
    · rename_i b f hb
      have hf := hl j want d hg hd b f hb
      subst hf
      have hsame : r.put (some d) (litTV b) = r := put_same hb
      cases hw : (b == want)
      · have e' : k (r.put o.dst undefTV) = some x := by
          cases b <;> cases want <;> simp at hw <;> simpa [hsame] using e
        refine ⟨undefTV, r.heap, e', fun _ => ⟨[], by simp⟩, fun s hk hs R' k' => ?_⟩
        unfold aop
        have hb' : s.tmps[d]? = some (.one (.dat .bool b true)) := by rw [hk.guard hg hd, hb]
        have hsame' : s.put (some d) (litTV b) = s := put_same hb'
        simp only [hg, hd, hb', ← hs]
        cases b <;> cases want <;> simp at hw <;> simp [hsame']
      · have e' : astep P Γ r o k = some x := by
          cases b <;> cases want <;> simp at hw <;> simpa [hsame] using e
        obtain ⟨t, h', h1, h2, h3⟩ := eff_two hn e'
        refine ⟨t, h', h1, h2, fun s hk hs R' k' => ?_⟩
        unfold aop
        have hb' : s.tmps[d]? = some (.one (.dat .bool b true)) := by rw [hk.guard hg hd, hb]
        have hsame' : s.put (some d) (litTV b) = s := put_same hb'
        simp only [hg, hd, hb']
        have := h3 s hk.like hs R' k'
        cases b <;> cases want <;> simp at hw <;> simpa [hsame'] using this
    · rename_i hb
      refine ⟨undefTV, r.heap, e, fun _ => ⟨[], by simp⟩, fun s hk hs R' k' => ?_⟩
      unfold aop
      have hb' : s.tmps[d]? = some (.tup []) := by rw [hk.guard hg hd, hb]
      simp only [hg, hd, hb', ← hs]
    · simp at e
end
end Go.Proofs.AM
