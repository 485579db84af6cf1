/- Maps: finding a key. -/
import Derived.Test.YtefekolpfklhdaaAmA12
set_option maxRecDepth 2000
set_option linter.unusedVariables false
set_option linter.unusedSimpArgs false
namespace Go.Proofs.AM
open Go Go.RowKit

theorem All2.get2' {α β : Type} {R : α → β → Prop} : ∀ {l : List α} {m : List β} {i : Nat} {x : α}, All2 R l m → l[i]? = some x → ∃ y, m[i]? = some y ∧ R x y
  | _ :: _, y :: _, 0, x, h, e => by simp at e; subst e; exact ⟨y, rfl, h.1⟩
  | _ :: _, _ :: _, i + 1, x, h, e => by simpa using All2.get2' h.2 (by simpa using e)
  | [], _, i, x, h, e => by simp at e
  | _ :: _, [], i, x, h, e => h.elim

theorem findNow_spec {P : Program} {w : World} {N : Nat → Prop} {kt : TypeId} {d : TypeDesc} {ki vi : Bool × K} (hd : P.underlying kt = some d) (hk : keyOkS P kt ki = true) {x : ki.2.den} {kv : Value} (hx : valR w N ki x kv) :
    ∀ {es : List (ki.2.den × vi.2.den)} {l : List MapEntry} {M : Nat → Prop}, All2 (entR w M ki vi) es l → ∀ i,
      (mhas ki es x = false ∧ Instr.findNow d kv l i = some none ∧ (∀ z, mget ki es x z = z) ∧ (∀ y, mset ki es x y = es ++ [(x, y)]) ∧ mdel ki es x = es) ∨
      (∃ j p e, mhas ki es x = true ∧ es[j]? = some p ∧ l[j]? = some e ∧ Instr.findNow d kv l i = some (some (i + j, e.val)) ∧ (∀ z, mget ki es x z = p.2) ∧ (∀ y, mset ki es x y = es.set j (x, y)) ∧ mdel ki es x = es.eraseIdx j ∧ Instr.sameBits 10000 e.key kv = true)
  | [], [], M, _, i => .inl ⟨rfl, rfl, fun _ => rfl, fun _ => rfl, rfl⟩
  | [], _ :: _, _, h, _ => h.elim
  | _ :: _, [], _, h, _ => h.elim
  | p :: es, e :: l, M, h, i => by
    have hs : Instr.sameNow d kv e.key = some (ki.2.beq x p.1) ∧ (ki.2.beq x p.1 = true → Instr.sameBits 10000 e.key kv = true) := by
      have he := h.1.1
      clear h
      unfold keyOkS at hk
      rw [hd] at hk
      obtain ⟨ka, kk⟩ := ki
      split at hk
      · rename_i q _ q' e1 e2
        cases e1
        simp only [Prod.mk.injEq] at e2
        obtain ⟨rfl, rfl⟩ := e2
        have hx : [kv] = [Value.int q' x] := hx
        have he : [e.key] = [Value.int q' p.1] := he
        simp only [List.cons.injEq, and_true] at hx he
        rw [hx, he]
        refine ⟨by simp [Instr.sameNow, K.beq], fun hb => ?_⟩
        have hb : x = p.1 := by simpa [K.beq] using hb
        simp [Instr.sameBits, hb]
      · rename_i e1 e2
        cases e1
        simp only [Prod.mk.injEq] at e2
        obtain ⟨rfl, rfl⟩ := e2
        have hx : [kv] = [Value.bool x] := hx
        have he : [e.key] = [Value.bool p.1] := he
        simp only [List.cons.injEq, and_true] at hx he
        rw [hx, he]
        refine ⟨by simp [Instr.sameNow, K.beq], fun hb => ?_⟩
        have hb : x = p.1 := by simpa [K.beq] using hb
        simp [Instr.sameBits, hb]
      · rename_i e1 e2
        cases e1
        simp only [Prod.mk.injEq] at e2
        obtain ⟨rfl, rfl⟩ := e2
        have hx : [kv] = [Value.string x] := hx
        have he : [e.key] = [Value.string p.1] := he
        simp only [List.cons.injEq, and_true] at hx he
        rw [hx, he]
        refine ⟨by simp [Instr.sameNow, K.beq], fun hb => ?_⟩
        have hb : (x == p.1) = true := hb
        have lem : ∀ u v : ByteArray, (u == v) = true → (v == u) = true := fun u v h => by
          have h : (u.data == v.data) = true := h
          have h := eq_of_beq h
          show (v.data == u.data) = true
          rw [h]; exact beq_self_eq_true _
        simpa [Instr.sameBits] using lem _ _ hb
      · simp at hk
    obtain ⟨hs1, hs2⟩ := hs
    cases hb : ki.2.beq x p.1 with
    | true =>
      refine .inr ⟨0, p, e, by simp [mhas, hb], rfl, rfl, by simp [Instr.findNow, hs1, hb], fun z => by simp [mget, hb], fun y => by simp [mset, hb], by simp [mdel, hb], hs2 hb⟩
    | false =>
      rcases findNow_spec hd hk hx h.2 (i + 1) with ⟨h1, h2, h3, h4, h5⟩ | ⟨j, p', e', h0, h1, h2, h3, h4, h5, h6, h7⟩
      · exact .inl ⟨by simp [mhas, hb, h1], by simp [Instr.findNow, hs1, hb, h2], fun z => by simp [mget, hb, h3], fun y => by simp [mset, hb, h4], by simp [mdel, hb, h5]⟩
      · refine .inr ⟨j + 1, p', e', by simp [mhas, h0], by simpa using h1, by simpa using h2, by simp [Instr.findNow, hs1, hb, h3]; omega, fun z => by simp [mget, hb, h4], fun y => by simp [mset, hb, h5], by simp [mdel, hb, h6], h7⟩

theorem run_findKey {P : Program} {w : World} {kt : TypeId} {d : TypeDesc} (hd : P.underlying kt = some d) {kv : Value} {l : List MapEntry} {r : Option (Nat × Value)} (h : Instr.findNow d kv l 0 = some r) : (Instr.findKey kt kv l).run P w = .ok r w := by
  simp [Instr.findKey, Sem.run_bind, run_underlying' hd, h]

theorem keyOkS_desc {P : Program} {kt : TypeId} {ki : Bool × K} (hk : keyOkS P kt ki = true) : ∃ d, P.underlying kt = some d := by
  unfold keyOkS at hk
  split at hk
  · exact ⟨_, by assumption⟩
  · exact ⟨_, by assumption⟩
  · exact ⟨_, by assumption⟩
  · simp at hk

/-! ### keys that are structs -/
def K.plain : K → Bool
  | .int _ | .bool => true
  | .pair a b => a.plain && b.plain
  | _ => false

theorem K.plain_flat : ∀ {k : K}, k.plain = true → k.flat = true
  | .int _, _ => rfl
  | .bool, _ => rfl
  | .pair a b, h => by
    simp only [K.plain, Bool.and_eq_true] at h
    simp [K.flat, K.plain_flat h.1, K.plain_flat h.2]
  | .str, h => by simp [K.plain] at h
  | .unit, h => by simp [K.plain] at h
  | .sl _, h => by simp [K.plain] at h
  | .rp _, h => by simp [K.plain] at h

def K.vals : (k : K) → k.den → List Value
  | .int q, x => [.int q x]
  | .bool, x => [.bool x]
  | .pair a b, x => a.vals x.1 ++ b.vals x.2
  | _, _ => []

theorem K.rd_vals {w : World} {N : Nat → Prop} : ∀ {k : K} {x : k.den} {cs : List Value}, k.plain = true → k.rd w N x cs → cs = k.vals x
  | .int _, _, _, _, h => h
  | .bool, _, _, _, h => h
  | .pair a b, x, cs, hp, h => by
    simp only [K.plain, Bool.and_eq_true] at hp
    obtain ⟨u, v, rfl, h1, h2⟩ := h
    rw [K.rd_vals hp.1 h1, K.rd_vals hp.2 h2]; rfl
  | .str, _, _, hp, _ => by simp [K.plain] at hp
  | .unit, _, _, hp, _ => by simp [K.plain] at hp
  | .sl _, _, _, hp, _ => by simp [K.plain] at hp
  | .rp _, _, _, hp, _ => by simp [K.plain] at hp

theorem K.cells_len (fr : Bool) : ∀ (k : K) (x : k.den), (k.cells fr x).length = k.size
  | .pair a b, x => by simp [K.cells, K.size, K.cells_len fr a, K.cells_len fr b]
  | .unit, _ => rfl
  | .int _, _ => rfl
  | .bool, _ => rfl
  | .str, _ => rfl
  | .sl _, _ => rfl
  | .rp _, _ => rfl

theorem K.beq_eq : ∀ {k : K} {x y : k.den}, k.plain = true → k.beq x y = true → x = y
  | .int _, _, _, _, h => by simpa [K.beq] using h
  | .bool, _, _, _, h => by simpa [K.beq] using h
  | .pair a b, x, y, hp, h => by
    simp only [K.plain, Bool.and_eq_true] at hp
    simp only [K.beq, Bool.and_eq_true] at h
    exact Prod.ext (K.beq_eq hp.1 h.1) (K.beq_eq hp.2 h.2)
  | .str, _, _, hp, _ => by simp [K.plain] at hp
  | .unit, _, _, hp, _ => by simp [K.plain] at hp
  | .sl _, _, _, hp, _ => by simp [K.plain] at hp
  | .rp _, _, _, hp, _ => by simp [K.plain] at hp

theorem K.vals_bits {n : Nat} : ∀ {k : K} (x : k.den), ∀ v ∈ k.vals x, Instr.sameBits n v v = true
  | .int _, x, v, h => by obtain rfl : v = _ := by simpa [K.vals] using h
                          cases n <;> simp [Instr.sameBits]
  | .bool, x, v, h => by obtain rfl : v = _ := by simpa [K.vals] using h
                         cases n <;> simp [Instr.sameBits]
  | .pair a b, x, v, h => by
    rcases List.mem_append.1 h with h | h
    · exact K.vals_bits x.1 v h
    · exact K.vals_bits x.2 v h
  | .str, _, _, h => by simp [K.vals] at h
  | .unit, _, _, h => by simp [K.vals] at h
  | .sl _, _, _, h => by simp [K.vals] at h
  | .rp _, _, _, h => by simp [K.vals] at h

theorem sameBits_agg {n : Nat} {l : List Value} (h : ∀ v ∈ l, Instr.sameBits n v v = true) : Instr.sameBits (n + 1) (.agg l.toArray) (.agg l.toArray) = true := by
  simp only [Instr.sameBits, beq_self_eq_true, Bool.true_and, List.all_eq_true]
  intro p hp
  obtain ⟨i, hi, e⟩ := List.mem_iff_getElem.1 hp
  simp at e hi
  subst e
  exact h _ (List.getElem_mem _)

theorem cut_field {P : Program} {t : TypeId} {d : TypeDesc} (hd : P.underlying t = some d) {a : K} (hi : (P.info? t).map (·.size) = some a.size) (fr : Bool) (x : a.den) (pre post : List AV) {off : Nat} (ho : pre.length = off) {tv : TV}
    (hs : shapeTV (isAggT P t) (a.cells fr x) = some tv) : cut P t (pre ++ a.cells fr x ++ post) off some = some tv := by
  obtain ⟨i, hi1, hi2⟩ := Option.map_eq_some_iff.1 hi
  unfold cut
  simp only [hd, hi1]
  have e : ((pre ++ a.cells fr x ++ post).drop off).take i.size = a.cells fr x := by
    rw [← ho, List.append_assoc, List.drop_left, hi2, ← K.cells_len fr a x, List.take_left]
  rw [e, if_pos (by rw [K.cells_len, hi2]), hs]

/-- How a key is shaped, compared and looked at. -/
def KeyGood (P : Program) (n : Nat) (t : TypeId) (k : K) : Prop :=
  k.plain = true ∧ (∃ d, P.underlying t = some d) ∧ ∀ (fr fr' : Bool) (x y : k.den), ∃ a b, shapeTV (isAggT P t) (k.cells fr x) = some a ∧ shapeTV (isAggT P t) (k.cells fr' y) = some b ∧ aeq P n t a b = some (k.beq x y)

theorem keyFs_plain {P : Program} {f : TypeId → K → Bool} (hf : ∀ t k, f t k = true → k.plain = true) : ∀ (fs : List Field) (off : Nat) (k : K), keyFs P f fs off k = true → k.plain = true
  | [], _, _, h => by simp [keyFs] at h
  | [g], off, k, h => by
    simp only [keyFs, Bool.and_eq_true] at h
    exact hf _ _ h.2.2
  | g :: g' :: r, off, k, h => by
    cases k <;> simp only [keyFs, Bool.and_eq_true, Bool.false_eq_true] at h
    simp only [K.plain, Bool.and_eq_true]
    exact ⟨hf _ _ h.1.2.2, keyFs_plain hf _ _ _ h.2⟩

theorem keyFs_aeq {P : Program} {n : Nat} {f : TypeId → K → Bool} (hf : ∀ t k, f t k = true → KeyGood P n t k) : ∀ (fs : List Field) (off : Nat) (k : K), keyFs P f fs off k = true →
    ∀ (fr fr' : Bool) (x y : k.den) (pre pre' : List AV), pre.length = off → pre'.length = off → aeqFields P (aeq P n) (pre ++ k.cells fr x) (pre' ++ k.cells fr' y) fs = some (k.beq x y)
  | [], _, _, h => by simp [keyFs] at h
  | [g], off, k, h => by
    intro fr fr' x y pre pre' hp hp'
    simp only [keyFs, Bool.and_eq_true, bne_iff_ne, ne_eq, beq_iff_eq] at h
    obtain ⟨⟨h1, h2⟩, h3, h4⟩ := h
    obtain ⟨_, ⟨d, hd⟩, hg⟩ := hf _ _ h4
    obtain ⟨a, b, ha, hb, he⟩ := hg fr fr' x y
    have c1 := cut_field hd h3 fr x pre [] hp ha
    have c2 := cut_field hd h3 fr' y pre' [] hp' hb
    rw [List.append_nil] at c1 c2
    unfold aeqFields
    rw [if_neg h1, h2, c1, c2]
    simp only [he]
  | g :: g' :: r, off, k, h => by
    intro fr fr' x y pre pre' hp hp'
    cases k <;> simp only [keyFs, Bool.and_eq_true, Bool.false_eq_true, bne_iff_ne, ne_eq, beq_iff_eq] at h
    rename_i ka kb
    obtain ⟨⟨⟨h1, h2⟩, h3, h4⟩, h5⟩ := h
    obtain ⟨_, ⟨d, hd⟩, hg⟩ := hf _ _ h4
    obtain ⟨a, b, ha, hb, he⟩ := hg fr fr' x.1 y.1
    have c1 := cut_field hd h3 fr x.1 pre (kb.cells fr x.2) hp ha
    have c2 := cut_field hd h3 fr' y.1 pre' (kb.cells fr' y.2) hp' hb
    have ih := keyFs_aeq hf (g' :: r) _ kb h5 fr fr' x.2 y.2 (pre ++ ka.cells fr x.1) (pre' ++ ka.cells fr' y.1) (by simp [hp, K.cells_len]) (by simp [hp', K.cells_len])
    unfold aeqFields
    simp only [K.cells, ← List.append_assoc]
    rw [if_neg h1, h2, c1, c2]
    simp only [he, ih, K.beq]

theorem keyEq_good {P : Program} : ∀ (n : Nat) (t : TypeId) (k : K), keyEq P n t k = true → KeyGood P n t k
  | 0, _, _, h => by simp [keyEq] at h
  | n + 1, t, k, h => by
    unfold keyEq at h
    split at h
    · rename_i q hu
      split at h
      · rename_i q'
        obtain rfl : q = q' := by simpa using h
        refine ⟨rfl, ⟨_, hu⟩, fun fr fr' x y => ⟨.one (.dat (.int q) x true), .one (.dat (.int q) y true), by simp [isAggT, hu, shapeTV, K.cells], by simp [isAggT, hu, shapeTV, K.cells], ?_⟩⟩
        simp [aeq, hu, K.beq]
      · simp at h
    · rename_i hu
      split at h
      · refine ⟨rfl, ⟨_, hu⟩, fun fr fr' x y => ⟨.one (.dat .bool x true), .one (.dat .bool y true), by simp [isAggT, hu, shapeTV, K.cells], by simp [isAggT, hu, shapeTV, K.cells], ?_⟩⟩
        simp [aeq, hu, K.beq]
      · simp at h
    · rename_i fs hu
      simp only [Bool.and_eq_true, Bool.not_eq_true'] at h
      refine ⟨keyFs_plain (fun t k h => (keyEq_good n t k h).1) _ _ _ h.2, ⟨_, hu⟩, fun fr fr' x y => ⟨.agg (k.cells fr x), .agg (k.cells fr' y), by simp [isAggT, hu, shapeTV], by simp [isAggT, hu, shapeTV], ?_⟩⟩
      have := keyFs_aeq (fun t k h => keyEq_good n t k h) _ _ _ h.2 fr fr' x y [] [] rfl rfl
      simp only [aeq, hu, h.1, Bool.false_eq_true, if_false]
      exact this
    · simp at h

theorem keyFs_each {P : Program} {f : TypeId → K → Bool} {w : World} {N Nf : Nat → Prop} {β : List Bl} {fr : Bool} (hf : ∀ t k, f t k = true → (∃ d, P.underlying t = some d) ∧ ∀ x : k.den, ∃ a, shapeTV (isAggT P t) (k.cells fr x) = some a) :
    ∀ (fs : List Field) (off : Nat) (k : K), keyFs P f fs off k = true → ∀ (x : k.den) (pre : List AV) (vs : List Value), pre.length = off → All2 (AV.R w N Nf β) (pre ++ k.cells fr x) vs →
      ∀ g ∈ fs, g.name ≠ "_" ∧ ∃ (q : K) (y : q.den) (tv : TV) (u : Value), f g.type q = true ∧ shapeTV (isAggT P g.type) (q.cells fr y) = some tv ∧ (part g.type vs.toArray g.offset).run P w = .ok u w ∧ tv.R w N Nf β u
  | [], _, _, h => by simp [keyFs] at h
  | [g], off, k, h => by
    intro x pre vs hp hR g0 hg0
    obtain rfl : g0 = g := by simpa using hg0
    simp only [keyFs, Bool.and_eq_true, bne_iff_ne, ne_eq, beq_iff_eq] at h
    obtain ⟨⟨h1, h2⟩, h3, h4⟩ := h
    obtain ⟨⟨d, hd⟩, hg⟩ := hf _ _ h4
    obtain ⟨a, ha⟩ := hg x
    have c1 := cut_field hd h3 fr x pre [] hp ha
    rw [List.append_nil] at c1
    obtain ⟨u, hu, hur⟩ := cut_part c1 hR
    exact ⟨h1, k, x, a, u, h4, ha, h2 ▸ hu, hur⟩
  | g :: g' :: r, off, k, h => by
    intro x pre vs hp hR g0 hg0
    cases k <;> simp only [keyFs, Bool.and_eq_true, Bool.false_eq_true, bne_iff_ne, ne_eq, beq_iff_eq] at h
    rename_i ka kb
    obtain ⟨⟨⟨h1, h2⟩, h3, h4⟩, h5⟩ := h
    simp only [K.cells, ← List.append_assoc] at hR
    rcases List.mem_cons.1 hg0 with rfl | hg0
    · obtain ⟨⟨d, hd⟩, hg⟩ := hf _ _ h4
      obtain ⟨a, ha⟩ := hg x.1
      have c1 := cut_field hd h3 fr x.1 pre (kb.cells fr x.2) hp ha
      obtain ⟨u, hu, hur⟩ := cut_part c1 hR
      exact ⟨h1, ka, x.1, a, u, h4, ha, h2 ▸ hu, hur⟩
    · exact keyFs_each hf (g' :: r) _ kb h5 x.2 (pre ++ ka.cells fr x.1) vs (by simp [hp, K.cells_len]) hR g0 hg0

theorem keyEq_check {P : Program} {w : World} {N Nf : Nat → Prop} {β : List Bl} (em : Bool) (d : Nat) : ∀ (n : Nat) (t : TypeId) (k : K), keyEq P n t k = true → ∀ (fr : Bool) (x : k.den) (tv : TV) (v : Value), shapeTV (isAggT P t) (k.cells fr x) = some tv → tv.R w N Nf β v →
    (Instr.checkKey em (n + d) t v).run P w = .ok () w
  | 0, _, _, h => by simp [keyEq] at h
  | n + 1, t, k, h => by
    intro fr x tv v hs hv
    have h0 := h
    unfold keyEq at h
    rw [show n + 1 + d = (n + d) + 1 by omega]
    split at h
    · rename_i q hu
      simp [Instr.checkKey, run_underlying' hu]
    · rename_i hu
      simp [Instr.checkKey, run_underlying' hu]
    · rename_i fs hu
      simp only [Bool.and_eq_true, Bool.not_eq_true'] at h
      have hagg : isAggT P t = true := by simp [isAggT, hu]
      rw [hagg] at hs
      simp only [shapeTV, Option.some.injEq] at hs
      subst hs
      obtain ⟨vs, rfl, hR⟩ := hv
      have each := keyFs_each (fr := fr) (fun t k h => ⟨(keyEq_good n t k h).2.1, fun x => by obtain ⟨a, _, ha, _⟩ := (keyEq_good n t k h).2.2 fr fr x x; exact ⟨a, ha⟩⟩) fs.toList 0 k h.2 x [] vs rfl hR
      rw [Instr.checkKey]
      simp only [Sem.run_bind, run_underlying' hu, Result.andThen_ok]
      rw [← Array.forIn_toList]
      generalize fs.toList = L at each
      induction L with
      | nil => simp
      | cons f L ih =>
        obtain ⟨hn, q, y, tv, u, hf, hq, hu, hur⟩ := each f (by simp)
        have p2 := keyEq_check em d n f.type q hf fr y tv u hq hur
        simp only [List.forIn_cons, Sem.run_bind, hn, ne_eq, not_false_eq_true, if_true, Result.andThen_ok, hu, p2, Sem.run_pure]
        exact ih (fun y hy => each y (by simp [hy]))
    · simp at h

theorem keyOkW_some {P : Program} {kt : TypeId} {ki : Bool × K} (h : keyOkW P kt ki = true) : ∃ fs, P.underlying kt = some (.struct fs) ∧ ki.1 = true ∧ keyEq P 8 kt ki.2 = true := by
  unfold keyOkW at h
  split at h
  · rename_i fs q hu
    exact ⟨fs, hu, rfl, h⟩
  · simp at h

theorem keyW_val {P : Program} {w : World} {N : Nat → Prop} {kt : TypeId} {ki : Bool × K} (h : keyOkW P kt ki = true) {x : ki.2.den} {kv : Value} (hx : valR w N ki x kv) : kv = .agg (ki.2.vals x).toArray ∧ ∀ N' : Nat → Prop, All2 (AV.R w N' N' []) (ki.2.cells true x) (ki.2.vals x) := by
  obtain ⟨fs, hu, h1, h2⟩ := keyOkW_some h
  obtain ⟨ka, kk⟩ := ki
  simp only at h1
  subst h1
  obtain ⟨cs, rfl, hcs⟩ := hx
  have := K.rd_vals (keyEq_good 8 _ _ h2).1 hcs
  subst this
  exact ⟨rfl, fun N' => K.cells_R true kk x _ (K.rd_flat _ _ _ (K.plain_flat (keyEq_good 8 _ _ h2).1) hcs)⟩

theorem keyW_equal {P : Program} {w : World} {N M : Nat → Prop} {kt : TypeId} {ki : Bool × K} (h : keyOkW P kt ki = true) {x y : ki.2.den} {u v : Value} (hx : valR w N ki x u) (hy : valR w M ki y v) :
    (Op.equal kt u v).run P w = .ok (ki.2.beq x y) w ∧ (ki.2.beq x y = true → Instr.sameBits 10000 v u = true) := by
  obtain ⟨fs, hu, h1, h2⟩ := keyOkW_some h
  obtain ⟨e1, r1⟩ := keyW_val h hx
  obtain ⟨e2, r2⟩ := keyW_val h hy
  obtain ⟨hp, _, hg⟩ := keyEq_good 8 _ _ h2
  constructor
  · obtain ⟨a, b, ha, hb, he⟩ := hg true true x y
    have hagg : isAggT P kt = true := by simp [isAggT, hu]
    rw [hagg] at ha hb
    simp only [shapeTV, Option.some.injEq] at ha hb
    subst ha; subst hb
    have r1' : (TV.agg (ki.2.cells true x)).R w (fun _ => True) (fun _ => True) [] u := ⟨_, e1, r1 _⟩
    have r2' : (TV.agg (ki.2.cells true y)).R w (fun _ => True) (fun _ => True) [] v := ⟨_, e2, r2 _⟩
    exact aeq_sound 8 9992 kt _ _ u v _ he r1' r2'
  · intro hb
    obtain rfl := K.beq_eq hp hb
    rw [e1, e2]
    exact sameBits_agg (fun v hv => K.vals_bits x v hv)

theorem findAsking_spec {P : Program} {w : World} {N : Nat → Prop} {kt : TypeId} {ki vi : Bool × K} (hk : keyOkW P kt ki = true) {x : ki.2.den} {kv : Value} (hx : valR w N ki x kv) :
    ∀ {es : List (ki.2.den × vi.2.den)} {l : List MapEntry} {M : Nat → Prop}, All2 (entR w M ki vi) es l → ∀ i,
      (mhas ki es x = false ∧ (Instr.findAsking kt kv l i).run P w = .ok none w ∧ (∀ z, mget ki es x z = z) ∧ (∀ y, mset ki es x y = es ++ [(x, y)]) ∧ mdel ki es x = es) ∨
      (∃ j p e, mhas ki es x = true ∧ es[j]? = some p ∧ l[j]? = some e ∧ (Instr.findAsking kt kv l i).run P w = .ok (some (i + j, e.val)) w ∧ (∀ z, mget ki es x z = p.2) ∧ (∀ y, mset ki es x y = es.set j (x, y)) ∧ mdel ki es x = es.eraseIdx j ∧ Instr.sameBits 10000 e.key kv = true)
  | [], [], M, _, i => .inl ⟨rfl, by simp [Instr.findAsking], fun _ => rfl, fun _ => rfl, rfl⟩
  | [], _ :: _, _, h, _ => h.elim
  | _ :: _, [], _, h, _ => h.elim
  | p :: es, e :: l, M, h, i => by
    obtain ⟨hs1, hs2⟩ := keyW_equal hk hx h.1.1
    cases hb : ki.2.beq x p.1 with
    | true =>
      rw [hb] at hs1
      exact .inr ⟨0, p, e, by simp [mhas, hb], rfl, rfl, by simp [Instr.findAsking, Sem.run_bind, hs1], fun z => by simp [mget, hb], fun y => by simp [mset, hb], by simp [mdel, hb], hs2 hb⟩
    | false =>
      rw [hb] at hs1
      rcases findAsking_spec hk hx h.2 (i + 1) with ⟨h1, h2, h3, h4, h5⟩ | ⟨j, p', e', h0, h1, h2, h3, h4, h5, h6, h7⟩
      · exact .inl ⟨by simp [mhas, hb, h1], by simp [Instr.findAsking, Sem.run_bind, hs1, h2], fun z => by simp [mget, hb, h3], fun y => by simp [mset, hb, h4], by simp [mdel, hb, h5]⟩
      · refine .inr ⟨j + 1, p', e', by simp [mhas, h0], by simpa using h1, by simpa using h2, ?_, fun z => by simp [mget, hb, h4], fun y => by simp [mset, hb, h5], by simp [mdel, hb, h6], h7⟩
        simp only [Instr.findAsking, Sem.run_bind, hs1, Result.andThen_ok, Bool.false_eq_true, if_false, h3]
        rw [show i + 1 + j = i + (j + 1) by omega]

/-! ### keys of either sort -/
theorem findKey_spec {P : Program} {w : World} {N : Nat → Prop} {kt : TypeId} {ki vi : Bool × K} (hk : keyOk P kt ki = true) {x : ki.2.den} {kv : Value} (hx : valR w N ki x kv)
    {es : List (ki.2.den × vi.2.den)} {l : List MapEntry} {M : Nat → Prop} (h : All2 (entR w M ki vi) es l) :
      (mhas ki es x = false ∧ (Instr.findKey kt kv l).run P w = .ok none w ∧ (∀ z, mget ki es x z = z) ∧ (∀ y, mset ki es x y = es ++ [(x, y)]) ∧ mdel ki es x = es) ∨
      (∃ j p e, mhas ki es x = true ∧ es[j]? = some p ∧ l[j]? = some e ∧ (Instr.findKey kt kv l).run P w = .ok (some (j, e.val)) w ∧ (∀ z, mget ki es x z = p.2) ∧ (∀ y, mset ki es x y = es.set j (x, y)) ∧ mdel ki es x = es.eraseIdx j ∧ Instr.sameBits 10000 e.key kv = true) := by
  simp only [keyOk, Bool.or_eq_true] at hk
  rcases hk with hk | hk
  · obtain ⟨d, hd⟩ := keyOkS_desc hk
    rcases findNow_spec hd hk hx h 0 with ⟨h1, h2, h3⟩ | ⟨j, p, e, h1, h2, h3, h4, h5⟩
    · exact .inl ⟨h1, run_findKey hd h2, h3⟩
    · exact .inr ⟨j, p, e, h1, h2, h3, by rw [Nat.zero_add] at h4; exact run_findKey hd h4, h5⟩
  · obtain ⟨fs, hu, -, -⟩ := keyOkW_some hk
    have hrun : (Instr.findKey kt kv l).run P w = (Instr.findAsking kt kv l 0).run P w := by
      cases l with
      | nil => simp [Instr.findKey, Sem.run_bind, run_underlying' hu, Instr.findNow, Instr.findAsking]
      | cons e es => simp [Instr.findKey, Sem.run_bind, run_underlying' hu, Instr.findNow, Instr.sameNow]
    rw [hrun]
    rcases findAsking_spec hk hx h 0 with h1 | ⟨j, p, e, h1, h2, h3, h4, h5⟩
    · exact .inl h1
    · exact .inr ⟨j, p, e, h1, h2, h3, by rw [Nat.zero_add] at h4; exact h4, h5⟩

theorem run_checkKey {P : Program} {w : World} {N : Nat → Prop} {kt : TypeId} {ki : Bool × K} (hk : keyOk P kt ki = true) {x : ki.2.den} {kv : Value} (hx : valR w N ki x kv) (b : Bool) : (Instr.checkKey b 10000 kt kv).run P w = .ok () w := by
  simp only [keyOk, Bool.or_eq_true] at hk
  rcases hk with hk | hk
  · have key : ∀ n, (Instr.checkKey b (n + 1) kt kv).run P w = .ok () w := by
      intro n
      unfold keyOkS at hk
      split at hk
      · rename_i q _ q' e1; simp [Instr.checkKey, run_underlying' e1]
      · rename_i e1; simp [Instr.checkKey, run_underlying' e1]
      · rename_i e1; simp [Instr.checkKey, run_underlying' e1]
      · simp at hk
    exact key 9999
  · obtain ⟨fs, hu, h1, h2⟩ := keyOkW_some hk
    obtain ⟨e1, r1⟩ := keyW_val hk hx
    have hagg : isAggT P kt = true := by simp [isAggT, hu]
    exact keyEq_check (N := N) (Nf := N) (β := []) b 9992 8 kt ki.2 h2 true x (.agg (ki.2.cells true x)) kv (by simp [hagg, shapeTV]) ⟨_, e1, r1 N⟩

theorem keyOk_flat {P : Program} {kt : TypeId} {ki : Bool × K} (hk : keyOk P kt ki = true) : ki.2.flat = true := by
  simp only [keyOk, Bool.or_eq_true] at hk
  rcases hk with hk | hk
  · unfold keyOkS at hk
    split at hk
    · rfl
    · rfl
    · rfl
    · simp at hk
  · obtain ⟨fs, hu, h1, h2⟩ := keyOkW_some hk
    have hp := (keyEq_good 8 _ _ h2).1
    exact K.plain_flat hp

section
variable {P : Program} {C : Cx} {s : AS} {β : List Bl} {a : Act} {w : World}

theorem decT_sound (h : Rel C s β a w) {k : Bool × K} {t : TV} {v : Value} (ht : t.R w (C.N s.heap β w) (C.fresh s.heap β w) β v) {x : k.2.den} {f : Bool} (e : decT s.heap k t = some (x, f)) :
    valR w (if f then C.fresh s.heap β w else C.N s.heap β w) k x v := by
  obtain ⟨ka, kk⟩ := k
  unfold decT at e
  split at e
  · rename_i cs
    obtain ⟨vs, rfl, hc⟩ := ht
    cases ka with
    | true => have := of_sound h hc e; exact ⟨vs, rfl, by cases f <;> exact this⟩
    | false => simp at e
  · rename_i y
    cases ka with
    | true => simp at e
    | false => have := of_sound h (l := [y]) (vs := [v]) ⟨ht, trivial⟩ e; show K.rd _ _ _ _ _; cases f <;> exact this
  · simp at e

theorem zeroD_sound (h : Rel C s β a w) {t : TypeId} {k : Bool × K} {z : k.2.den} (e : zeroD P s.heap t k = some z) :
    ∃ zv, (zeroValue t).run P w = .ok zv w ∧ valR w (C.fresh s.heap β w) k z zv := by
  unfold zeroD at e
  split at e
  rotate_left
  · simp at e
  rename_i i hi
  split at e
  rotate_left
  · simp at e
  rename_i zv hzv
  split at e
  rotate_left
  · simp at e
  rename_i zd hzd
  simp only [Option.some.injEq] at e; subst e
  refine ⟨zv, by simp [zeroValue, typeInfo, hi, hzv, Sem.run_bind], ?_⟩
  have := decT_sound h (constTV_R zv) hzd
  exact this

end
end Go.Proofs.AM
