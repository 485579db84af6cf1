/- Plain laws: how a loop's or a map walk's value is shown. -/
import Derived.Test.YtefekolpfklhdaaAmA30
set_option maxRecDepth 2000
set_option linter.unusedVariables false
set_option linter.unusedSimpArgs false
namespace Go.Proofs.AM
open Go

theorem wrap64 {n : Int} (h1 : -9223372036854775808 ≤ n) (h2 : n ≤ 9223372036854775807) : IntKind.wrap .i64 n = n := by
  have e1 : IntKind.bits .i64 = 64 := rfl
  have e2 : IntKind.signed .i64 = true := rfl
  simp only [IntKind.wrap, e1, e2, Bool.true_and, Nat.add_one_sub_one]
  split <;> rename_i h <;> simp at h <;> omega

theorem wrapU64 {n : Int} (h1 : 0 ≤ n) (h2 : n < 18446744073709551616) : IntKind.wrap .u64 n = n := by
  have e1 : IntKind.bits .u64 = 64 := rfl
  have e2 : IntKind.signed .u64 = false := rfl
  simp only [IntKind.wrap, e1, e2, Bool.false_and]
  simp
  omega

/-- A loop that goes through the states s 0, s 1, … and ends at s n. -/
theorem loop_idx {X E : Type} {f : X → Option (X ⊕ E)} (n : Nat) (s : Nat → X) {e : E} (step : ∀ i, i < n → f (s i) = some (.inl (s (i + 1)))) (fin : f (s n) = some (.inr e)) : loopM f (s 0) = some e := by
  suffices h : ∀ k i, i + k = n → iterM f (k + 1) (s i) = some e from loopM_of (h n 0 (by omega))
  intro k
  induction k with
  | zero => intro i hi; obtain rfl : i = n := by omega
            simp [iterM, fin]
  | succ k ih =>
    intro i hi
    unfold iterM
    rw [step i (by omega)]
    exact ih (i + 1) (by omega)

/-- The same, where the start is told apart. -/
theorem loop_idx' {X E : Type} {f : X → Option (X ⊕ E)} {x : X} (n : Nat) (s : Nat → X) {e : E} (start : x = s 0) (step : ∀ i, i < n → f (s i) = some (.inl (s (i + 1)))) (fin : f (s n) = some (.inr e)) : loopM f x = some e := start ▸ loop_idx n s step fin

/-- A loop that goes through s 0, s 1, … and may leave at any of them. -/
theorem loop_til {X E : Type} {f : X → Option (X ⊕ E)} {x : X} (n : Nat) (s : Nat → X) {e : E} (start : x = s 0) (step : ∀ i, i < n → f (s i) = some (.inl (s (i + 1))) ∨ f (s i) = some (.inr e)) (fin : f (s n) = some (.inr e)) : loopM f x = some e := by
  subst start
  suffices h : ∀ k i, i + k = n → iterM f (k + 1) (s i) = some e from loopM_of (h n 0 (by omega))
  intro k
  induction k with
  | zero => intro i hi; obtain rfl : i = n := by omega
            simp [iterM, fin]
  | succ k ih =>
    intro i hi
    unfold iterM
    rcases step i (by omega) with h | h
    · rw [h]; exact ih (i + 1) (by omega)
    · rw [h]

/-- A loop told by a measure. -/
theorem loop_wf {X E : Type} {f : X → Option (X ⊕ E)} (Q : X → E → Prop) (m : X → Nat) (step : ∀ x e, Q x e → f x = some (.inr e) ∨ ∃ y, f x = some (.inl y) ∧ Q y e ∧ m y < m x) : ∀ x e, Q x e → loopM f x = some e := by
  intro x e
  induction hm : m x using Nat.strongRecOn generalizing x with
  | _ n ih =>
    intro q
    rw [loopM_eq]
    rcases step x e q with h | ⟨y, h, q', lt⟩
    · rw [h]
    · rw [h]; exact ih (m y) (hm ▸ lt) y rfl q'

theorem goodM_unique {A X E : Type} {f : A → List A → X → Option (X ⊕ E)} {fin : X → Option (X ⊕ E)} : ∀ (n : Nat) (L : List A) (x : X) (e e' : E), L.length = n → goodM f fin n L x e → goodM f fin n L x e' → e = e'
  | 0, L, x, e, e', _, h, h' => by
    have := h.2.symm.trans h'.2; simpa using this
  | n + 1, L, x, e, e', hl, h, h' => by
    have h0 : L[0]? = some (L[0]'(by omega)) := by simp
    have a := h 0 _ h0
    have b := h' 0 _ h0
    split at a <;> rename_i eq <;> rw [eq] at b <;> simp only at b
    · exact goodM_unique n _ _ _ _ (by simp; omega) a b
    · rw [← a, ← b]

theorem anyM_good {A X E : Type} {f : A → List A → X → Option (X ⊕ E)} {fin : X → Option (X ⊕ E)} {L : List A} {x : X} {e : E} (h : goodM f fin L.length L x e) : anyM f fin L x = some e := by
  have hh : ∃ e, goodM f fin L.length L x e := ⟨e, h⟩
  unfold anyM
  rw [dif_pos hh]
  exact congrArg some (goodM_unique _ _ _ _ _ rfl (Classical.choose_spec hh) h)

/-- A walk over a map, by what holds of what is left and of the state. -/
theorem anyM_of {A X E : Type} {f : A → List A → X → Option (X ⊕ E)} {fin : X → Option (X ⊕ E)} {e : E} (Q : List A → X → Prop)
    (step : ∀ L x, Q L x → ∀ (j : Nat) (p : A), L[j]? = some p → (∃ y, f p (L.eraseIdx j) x = some (.inl y) ∧ Q (L.eraseIdx j) y) ∨ f p (L.eraseIdx j) x = some (.inr e))
    (done : ∀ x, Q [] x → fin x = some (.inr e)) : ∀ L x, Q L x → anyM f fin L x = some e := by
  suffices h : ∀ n L x, L.length = n → Q L x → goodM f fin n L x e from fun L x q => anyM_good (h _ L x rfl q)
  intro n
  induction n with
  | zero => intro L x hl q
            obtain rfl : L = [] := List.length_eq_zero_iff.1 hl
            exact ⟨rfl, done x q⟩
  | succ n ih =>
    intro L x hl q j p hj
    have hj' : j < L.length := by
      rcases Nat.lt_or_ge j L.length with h | h
      · exact h
      · simp [List.getElem?_eq_none h] at hj
    rcases step L x q j p hj with ⟨y, h, q'⟩ | h
    · rw [h]; exact ih _ _ (by rw [List.length_eraseIdx]; simp [hj']; omega) q'
    · rw [h]

/-! ### maps with numbers for keys -/
def ifind {V : Type} (es : List (Int × V)) (x : Int) : Option V := match es with
  | [] => none
  | p :: r => if x = p.1 then some p.2 else ifind r x

theorem ifind_cons {V : Type} (p : Int × V) (r : List (Int × V)) (x : Int) : ifind (p :: r) x = if x = p.1 then some p.2 else ifind r x := rfl

theorem mhas_ifind {V : Type} {q : IntKind} (es : List (Int × V)) (x : Int) : mhas (false, .int q) es x = (ifind es x).isSome := by
  induction es with
  | nil => rfl
  | cons p r ih =>
    have ih' : mhas (false, .int q) r x = (ifind r x).isSome := ih
    show ((decide (x = p.1)) || mhas (false, .int q) r x) = _
    rw [ih', ifind_cons]
    by_cases h : x = p.1 <;> simp [h]

theorem mget_ifind {V : Type} {q : IntKind} (es : List (Int × V)) (x : Int) (z : V) : mget (false, .int q) es x z = (ifind es x).getD z := by
  induction es with
  | nil => rfl
  | cons p r ih =>
    have ih' : mget (false, .int q) r x z = (ifind r x).getD z := ih
    show cond (decide (x = p.1)) p.2 (mget (false, .int q) r x z) = _
    rw [ih', ifind_cons]
    by_cases h : x = p.1 <;> simp [h]

theorem mset_ifind {V : Type} {q : IntKind} (es : List (Int × V)) (x : Int) (v : V) (y : Int) : ifind (mset (false, .int q) es x v) y = if y = x then some v else ifind es y := by
  induction es with
  | nil => show ifind [(x, v)] y = _; simp [ifind]
  | cons p r ih =>
    have ih' : ifind (mset (false, .int q) r x v) y = if y = x then some v else ifind r y := ih
    show ifind (cond (decide (x = p.1)) ((x, v) :: r) (p :: mset (false, .int q) r x v)) y = _
    by_cases h : x = p.1
    · simp only [h, decide_true, cond_true]
      rw [ifind_cons, ifind_cons]
      by_cases hy : y = p.1 <;> simp [hy]
    · simp only [h, decide_false, cond_false]
      rw [ifind_cons, ifind_cons, ih']
      by_cases hy : y = x
      · simp [hy, h]
      · by_cases h2 : y = p.1
        · subst h2; simp [hy, fun e => hy (Eq.symm e)]
        · simp [hy, h2]

theorem mset_keys {V : Type} {q : IntKind} (es : List (Int × V)) (x : Int) (v : V) : (∀ k, k ∈ (mset (false, .int q) es x v).map Prod.fst → k = x ∨ k ∈ es.map Prod.fst) := by
  induction es with
  | nil => intro k hk; have : k ∈ [((x : Int), v)].map Prod.fst := hk; simpa using this
  | cons p r ih =>
    intro k hk
    have hk' : k ∈ (cond (decide (x = p.1)) ((x, v) :: r) (p :: mset (false, .int q) r x v)).map Prod.fst := hk
    by_cases h : x = p.1
    · simp only [h, decide_true, cond_true] at hk'
      simp at hk'
      rcases hk' with rfl | hk'
      · exact .inl h.symm
      · right; simp [hk']
    · simp only [h, decide_false, cond_false] at hk'
      rw [List.map_cons, List.mem_cons] at hk'
      rcases hk' with rfl | hk'
      · right; simp
      · rcases ih k hk' with e | e
        · exact .inl e
        · right; rw [List.map_cons]; exact List.mem_cons_of_mem _ e

theorem mset_nodup {V : Type} {q : IntKind} (es : List (Int × V)) (x : Int) (v : V) (h : (es.map Prod.fst).Nodup) : ((mset (false, .int q) es x v).map Prod.fst).Nodup := by
  induction es with
  | nil => show ([((x : Int), v)].map Prod.fst).Nodup; simp
  | cons p r ih =>
    show ((cond (decide (x = p.1)) ((x, v) :: r) (p :: mset (false, .int q) r x v)).map Prod.fst).Nodup
    rw [List.map_cons, List.nodup_cons] at h
    by_cases hx : x = p.1
    · simp only [hx, decide_true, cond_true]
      rw [List.map_cons, List.nodup_cons]; exact h
    · simp only [hx, decide_false, cond_false]
      rw [List.map_cons, List.nodup_cons]
      refine ⟨fun hk => ?_, ih h.2⟩
      rcases mset_keys _ _ _ _ hk with e | e
      · exact hx e.symm
      · exact h.1 e

theorem ifind_mem {V : Type} {es : List (Int × V)} (h : (es.map Prod.fst).Nodup) {x : Int} {v : V} (m : (x, v) ∈ es) : ifind es x = some v := by
  induction es with
  | nil => simp at m
  | cons p r ih =>
    rw [List.map_cons, List.nodup_cons] at h
    unfold ifind
    rcases List.mem_cons.1 m with rfl | m
    · simp
    · by_cases hx : x = p.1
      · exact absurd (hx ▸ List.mem_map_of_mem (f := Prod.fst) m) h.1
      · rw [if_neg hx]; exact ih h.2 m

theorem ifind_none {V : Type} {es : List (Int × V)} {x : Int} (h : x ∉ es.map Prod.fst) : ifind es x = none := by
  induction es with
  | nil => rfl
  | cons p r ih =>
    rw [List.map_cons, List.mem_cons] at h
    unfold ifind
    rw [if_neg (fun e => h (.inl e))]
    exact ih (fun e => h (.inr e))

/-! ### what a model comes to, step by step -/
/-- The value is there, and so. -/
def Ok {A : Type} (o : Option A) (T : A → Prop) : Prop := ∃ r, o = some r ∧ T r

theorem Ok.some {A : Type} {T : A → Prop} {r : A} (h : T r) : Ok (some r) T := ⟨r, rfl, h⟩
theorem Ok.of {A : Type} {T : A → Prop} {o : Option A} {r : A} (e : o = Option.some r) (h : T r) : Ok o T := ⟨r, e, h⟩
theorem Ok.mono {A : Type} {S T : A → Prop} {o : Option A} (h : Ok o S) (k : ∀ r, S r → T r) : Ok o T := by
  obtain ⟨r, e, h⟩ := h; exact ⟨r, e, k r h⟩
theorem Ok.bind {A B : Type} {S : A → Prop} {T : B → Prop} {a : Option A} {f : A → Option B} (h : Ok a S) (k : ∀ x, S x → Ok (f x) T) : Ok (Option.bind a f) T := by
  obtain ⟨r, rfl, h⟩ := h; exact k r h
theorem Ok.gd {A : Type} {T : A → Prop} {c : Prop} [Decidable c] {x : Option A} (h : c) (k : Ok x T) : Ok (gd c x) T := by rw [gd_pos h]; exact k
theorem Ok.cond {A : Type} {T : A → Prop} {c : Prop} [Decidable c] {x y : Option A} (h : c → Ok x T) (k : ¬ c → Ok y T) : Ok (bif decide c then x else y) T := by
  by_cases hc : c
  · rw [decide_eq_true hc]; exact h hc
  · rw [decide_eq_false hc]; exact k hc
theorem Ok.condb {A : Type} {T : A → Prop} {b : Bool} {x y : Option A} (h : b = true → Ok x T) (k : b = false → Ok y T) : Ok (bif b then x else y) T := by
  cases b
  · exact k rfl
  · exact h rfl
theorem Ok.ncond {A : Type} {T : A → Prop} {c : Prop} [Decidable c] {x y : Option A} (h : ¬ c → Ok x T) (k : c → Ok y T) : Ok (bif !decide c then x else y) T := by
  by_cases hc : c
  · rw [decide_eq_true hc]; exact k hc
  · rw [decide_eq_false hc]; exact h hc
theorem Ok.ite {A : Type} {T : A → Prop} {c : Prop} [Decidable c] {x y : Option A} (h : c → Ok x T) (k : ¬ c → Ok y T) : Ok (if c then x else y) T := by
  by_cases hc : c
  · rw [if_pos hc]; exact h hc
  · rw [if_neg hc]; exact k hc

/-- A loop that ends: what holds at its i-th round, and behind it. -/
theorem Ok.loop {X E : Type} {f : X → Option (X ⊕ E)} {x : X} {T : E → Prop} (n : Nat) (Q : Nat → X → Prop) (start : Q 0 x) (step : ∀ i x, i ≤ n → Q i x → Ok (f x) (fun s => s.elim (fun y => i < n ∧ Q (i + 1) y) T)) : Ok (loopM f x) T := by
  suffices H : ∀ k i x, i + k = n → Q i x → Ok (loopM f x) T from H n 0 x (by omega) start
  intro k
  induction k with
  | zero =>
    intro i x hi q
    obtain ⟨r, e, h⟩ := step i x (by omega) q
    rw [loopM_eq, e]
    cases r with
    | inl y => exact absurd h.1 (by omega)
    | inr e => exact ⟨_, rfl, h⟩
  | succ k ih =>
    intro i x hi q
    obtain ⟨r, e, h⟩ := step i x (by omega) q
    rw [loopM_eq, e]
    cases r with
    | inl y => exact ih (i + 1) y (by omega) h.2
    | inr e => exact ⟨_, rfl, h⟩

theorem Ok.inl {X E : Type} {Q : X → Prop} {T : E → Prop} {y : X} (h : Q y) : Ok (Option.some (Sum.inl y)) (fun s : X ⊕ E => s.elim Q T) := ⟨_, rfl, h⟩
theorem Ok.inr {X E : Type} {Q : X → Prop} {T : E → Prop} {e : E} (h : T e) : Ok (Option.some (Sum.inr e)) (fun s : X ⊕ E => s.elim Q T) := ⟨_, rfl, h⟩
theorem Ok.elim {A B C : Type} {T : C → Prop} {f : A → Option C} {g : B → Option C} {s : A ⊕ B} (h : ∀ a, s = .inl a → Ok (f a) T) (k : ∀ b, s = .inr b → Ok (g b) T) : Ok (Sum.elim f g s) T := by
  cases s with
  | inl a => exact h a rfl
  | inr b => exact k b rfl

/-! ### maps whose keys are told apart as they should -/
theorem mget_mset {k : Bool × K} (hb : ∀ x y : k.2.den, k.2.beq x y = true ↔ x = y) {V : Type} (es : List (k.2.den × V)) (x : k.2.den) (v : V) (y : k.2.den) (z : V) : mget k (mset k es x v) y z = (open Classical in if y = x then v else mget k es y z) := by
  induction es with
  | nil =>
    simp only [mset, mget]
    by_cases h : y = x
    · rw [(hb y x).2 h]; simp [h]
    · have : k.2.beq y x = false := by cases hh : k.2.beq y x; rfl; exact absurd ((hb y x).1 hh) h
      simp [this, h]
  | cons p r ih =>
    simp only [mset]
    by_cases hxp : x = p.1
    · rw [(hb x p.1).2 hxp]
      simp only [cond_true, mget]
      by_cases h : y = x
      · rw [(hb y x).2 h]; simp [h]
      · have h1 : k.2.beq y x = false := by cases hh : k.2.beq y x; rfl; exact absurd ((hb y x).1 hh) h
        have h2 : k.2.beq y p.1 = false := by cases hh : k.2.beq y p.1; rfl; exact absurd (((hb y p.1).1 hh).trans hxp.symm) h
        simp [h1, h2, h]
    · have h0 : k.2.beq x p.1 = false := by cases hh : k.2.beq x p.1; rfl; exact absurd ((hb x p.1).1 hh) hxp
      rw [h0]
      simp only [cond_false, mget]
      by_cases h : y = p.1
      · rw [(hb y p.1).2 h]
        have : y ≠ x := fun e => hxp (e ▸ h)
        simp [this]
      · have h1 : k.2.beq y p.1 = false := by cases hh : k.2.beq y p.1; rfl; exact absurd ((hb y p.1).1 hh) h
        simp only [h1, cond_false, ih]

end Go.Proofs.AM
