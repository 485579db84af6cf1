/- Maps: finding a key. -/
import Derived.Test.YtefekolpfklhdaaAmA12
set_option maxRecDepth 2000
set_option linter.unusedVariables false
set_option linter.unusedSimpArgs false
namespace Go.Proofs.AM
open Go Go.RowKit

theorem All2.get2' {α β : Type} {R : α → β → Prop} : ∀ {l : List α} {m : List β} {i : Nat} {x : α}, All2 R l m → l[i]? = some x → ∃ y, m[i]? = some y ∧ R x y
  | _ :: _, y :: _, 0, x, h, e => by simp at e; subst e; exact ⟨y, rfl, h.1⟩
  | _ :: _, _ :: _, i + 1, x, h, e => by simpa using All2.get2' h.2 (by simpa using e)
  | [], _, i, x, h, e => by simp at e
  | _ :: _, [], i, x, h, e => h.elim

theorem findNow_spec {P : Program} {w : World} {N : Nat → Prop} {kt : TypeId} {d : TypeDesc} {ki vi : Bool × K} (hd : P.underlying kt = some d) (hk : keyOk P kt ki = true) {x : ki.2.den} {kv : Value} (hx : valR w N ki x kv) :
    ∀ {es : List (ki.2.den × vi.2.den)} {l : List MapEntry} {M : Nat → Prop}, All2 (entR w M ki vi) es l → ∀ i,
      (mhas ki es x = false ∧ Instr.findNow d kv l i = some none ∧ (∀ z, mget ki es x z = z) ∧ (∀ y, mset ki es x y = es ++ [(x, y)]) ∧ mdel ki es x = es) ∨
      (∃ j p e, mhas ki es x = true ∧ es[j]? = some p ∧ l[j]? = some e ∧ Instr.findNow d kv l i = some (some (i + j, e.val)) ∧ (∀ z, mget ki es x z = p.2) ∧ (∀ y, mset ki es x y = es.set j (x, y)) ∧ mdel ki es x = es.eraseIdx j ∧ Instr.sameBits 10000 e.key kv = true)
  | [], [], M, _, i => .inl ⟨rfl, rfl, fun _ => rfl, fun _ => rfl, rfl⟩
  | [], _ :: _, _, h, _ => h.elim
  | _ :: _, [], _, h, _ => h.elim
  | p :: es, e :: l, M, h, i => by
    have hs : Instr.sameNow d kv e.key = some (ki.2.beq x p.1) ∧ (ki.2.beq x p.1 = true → Instr.sameBits 10000 e.key kv = true) := by
      have he := h.1.1
      clear h
      unfold keyOk at hk
      rw [hd] at hk
      obtain ⟨ka, kk⟩ := ki
      split at hk
      · rename_i q _ q' e1 e2
        cases e1
        simp only [Prod.mk.injEq] at e2
        obtain ⟨rfl, rfl⟩ := e2
        have hx : [kv] = [Value.int q' x] := hx
        have he : [e.key] = [Value.int q' p.1] := he
        simp only [List.cons.injEq, and_true] at hx he
        rw [hx, he]
        refine ⟨by simp [Instr.sameNow, K.beq], fun hb => ?_⟩
        have hb : x = p.1 := by simpa [K.beq] using hb
        simp [Instr.sameBits, hb]
      · rename_i e1 e2
        cases e1
        simp only [Prod.mk.injEq] at e2
        obtain ⟨rfl, rfl⟩ := e2
        have hx : [kv] = [Value.bool x] := hx
        have he : [e.key] = [Value.bool p.1] := he
        simp only [List.cons.injEq, and_true] at hx he
        rw [hx, he]
        refine ⟨by simp [Instr.sameNow, K.beq], fun hb => ?_⟩
        have hb : x = p.1 := by simpa [K.beq] using hb
        simp [Instr.sameBits, hb]
      · rename_i e1 e2
        cases e1
        simp only [Prod.mk.injEq] at e2
        obtain ⟨rfl, rfl⟩ := e2
        have hx : [kv] = [Value.string x] := hx
        have he : [e.key] = [Value.string p.1] := he
        simp only [List.cons.injEq, and_true] at hx he
        rw [hx, he]
        refine ⟨by simp [Instr.sameNow, K.beq], fun hb => ?_⟩
        have hb : (x == p.1) = true := hb
        have lem : ∀ u v : ByteArray, (u == v) = true → (v == u) = true := fun u v h => by
          have h : (u.data == v.data) = true := h
          have h := eq_of_beq h
          show (v.data == u.data) = true
          rw [h]; exact beq_self_eq_true _
        simpa [Instr.sameBits] using lem _ _ hb
      · simp at hk
    obtain ⟨hs1, hs2⟩ := hs
    cases hb : ki.2.beq x p.1 with
    | true =>
      refine .inr ⟨0, p, e, by simp [mhas, hb], rfl, rfl, by simp [Instr.findNow, hs1, hb], fun z => by simp [mget, hb], fun y => by simp [mset, hb], by simp [mdel, hb], hs2 hb⟩
    | false =>
      rcases findNow_spec hd hk hx h.2 (i + 1) with ⟨h1, h2, h3, h4, h5⟩ | ⟨j, p', e', h0, h1, h2, h3, h4, h5, h6, h7⟩
      · exact .inl ⟨by simp [mhas, hb, h1], by simp [Instr.findNow, hs1, hb, h2], fun z => by simp [mget, hb, h3], fun y => by simp [mset, hb, h4], by simp [mdel, hb, h5]⟩
      · refine .inr ⟨j + 1, p', e', by simp [mhas, h0], by simpa using h1, by simpa using h2, by simp [Instr.findNow, hs1, hb, h3]; omega, fun z => by simp [mget, hb, h4], fun y => by simp [mset, hb, h5], by simp [mdel, hb, h6], h7⟩

theorem run_checkKey {P : Program} {w : World} {kt : TypeId} {ki : Bool × K} (hk : keyOk P kt ki = true) (b : Bool) (kv : Value) : (Instr.checkKey b 10000 kt kv).run P w = .ok () w := by
  have key : ∀ n, (Instr.checkKey b (n + 1) kt kv).run P w = .ok () w := by
    intro n
    unfold keyOk at hk
    split at hk
    · rename_i q _ q' e1; simp [Instr.checkKey, run_underlying' e1]
    · rename_i e1; simp [Instr.checkKey, run_underlying' e1]
    · rename_i e1; simp [Instr.checkKey, run_underlying' e1]
    · simp at hk
  exact key 9999

theorem keyOk_desc {P : Program} {kt : TypeId} {ki : Bool × K} (hk : keyOk P kt ki = true) : ∃ d, P.underlying kt = some d := by
  unfold keyOk at hk
  split at hk
  · exact ⟨_, by assumption⟩
  · exact ⟨_, by assumption⟩
  · exact ⟨_, by assumption⟩
  · simp at hk

theorem run_findKey {P : Program} {w : World} {kt : TypeId} {d : TypeDesc} (hd : P.underlying kt = some d) {kv : Value} {l : List MapEntry} {r : Option (Nat × Value)} (h : Instr.findNow d kv l 0 = some r) : (Instr.findKey kt kv l).run P w = .ok r w := by
  simp [Instr.findKey, Sem.run_bind, run_underlying' hd, h]

section
variable {P : Program} {C : Cx} {s : AS} {β : List Bl} {a : Act} {w : World}

theorem decT_sound (h : Rel C s β a w) {k : Bool × K} {t : TV} {v : Value} (ht : t.R w (C.N s.heap β w) (C.fresh s.heap β w) β v) {x : k.2.den} {f : Bool} (e : decT s.heap k t = some (x, f)) :
    valR w (if f then C.fresh s.heap β w else C.N s.heap β w) k x v := by
  obtain ⟨ka, kk⟩ := k
  unfold decT at e
  split at e
  · rename_i cs
    obtain ⟨vs, rfl, hc⟩ := ht
    cases ka with
    | true => have := of_sound h hc e; exact ⟨vs, rfl, by cases f <;> exact this⟩
    | false => simp at e
  · rename_i y
    cases ka with
    | true => simp at e
    | false => have := of_sound h (l := [y]) (vs := [v]) ⟨ht, trivial⟩ e; show K.rd _ _ _ _ _; cases f <;> exact this
  · simp at e

theorem zeroD_sound (h : Rel C s β a w) {t : TypeId} {k : Bool × K} {z : k.2.den} (e : zeroD P s.heap t k = some z) :
    ∃ zv, (zeroValue t).run P w = .ok zv w ∧ valR w (C.fresh s.heap β w) k z zv := by
  unfold zeroD at e
  split at e
  rotate_left
  · simp at e
  rename_i i hi
  split at e
  rotate_left
  · simp at e
  rename_i zv hzv
  split at e
  rotate_left
  · simp at e
  rename_i zd hzd
  simp only [Option.some.injEq] at e; subst e
  refine ⟨zv, by simp [zeroValue, typeInfo, hi, hzv, Sem.run_bind], ?_⟩
  have := decT_sound h (constTV_R zv) hzd
  exact this

end
end Go.Proofs.AM
