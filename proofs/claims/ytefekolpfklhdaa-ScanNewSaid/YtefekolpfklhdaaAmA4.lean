/- The abstract machine's values are the machine's. -/
import Derived.Test.YtefekolpfklhdaaAmA3
set_option maxRecDepth 2000
set_option linter.unusedVariables false
set_option linter.unusedSimpArgs false
namespace Go.Proofs.AM
open Go Go.RowKit

section
variable {w : World} {N Nf : Nat → Prop} {β : List Bl}

theorem K.cells_R (fr : Bool) : ∀ (k : K) (x : k.den) (cs : List Value), k.rd w (if fr then Nf else N) x cs → All2 (AV.R w N Nf β) (K.cells fr k x) cs
  | .pair a b, x, cs, h => by
    obtain ⟨c, d, rfl, h1, h2⟩ := h
    exact (K.cells_R fr a _ _ h1).app (K.cells_R fr b _ _ h2)
  | .unit, _, cs, h => by simp [K.rd] at h; subst h; trivial
  | .int k, x, cs, h => by simp [K.rd] at h; subst h; exact ⟨rfl, trivial⟩
  | .bool, x, cs, h => by simp [K.rd] at h; subst h; exact ⟨rfl, trivial⟩
  | .str, x, cs, h => by simp [K.rd] at h; subst h; exact ⟨rfl, trivial⟩
  | .sl k, x, cs, h => by
    have h' := h
    obtain ⟨A, c, rfl, _⟩ := h
    exact ⟨h', trivial⟩
  | .rp k, x, cs, h => by
    have h' := h
    obtain ⟨A, c, _, rfl, _⟩ := h
    exact ⟨h', trivial⟩

theorem constAV_R (v : Value) : (constAV v).R w N Nf β v := by
  unfold constAV
  split <;> first | trivial | exact rfl

theorem All2_const : ∀ l : List Value, All2 (AV.R w N Nf β) (l.map constAV) l
  | [] => trivial
  | v :: l => ⟨constAV_R v, All2_const l⟩

theorem constTV_R (v : Value) : (constTV v).R w N Nf β v := by
  unfold constTV
  split
  · rename_i cs
    exact ⟨cs.toList, by simp, All2_const _⟩
  · exact constAV_R _

end

section
variable {C : Cx} {s : AS} {β : List Bl} {a : Act} {w : World}

theorem Rel.ev (h : Rel C s β a w) (x : Operand) : (s.ev x).R w (C.N s.heap β w) (C.fresh s.heap β w) β (a.eval x) := by
  cases x with
  | tmp t =>
    simp only [AS.ev, Act.eval]
    cases ht : s.tmps[t]? with
    | none => trivial
    | some tv => simpa [ht] using h.tm t tv ht
  | const v => exact constTV_R v
  | global g => trivial
  | func f => exact ⟨[], rfl, trivial⟩

theorem Rel.ev1 (h : Rel C s β a w) {x : Operand} {v : AV} (e : s.ev x = .one v) : v.R w (C.N s.heap β w) (C.fresh s.heap β w) β (a.eval x) := by
  have := h.ev x; rw [e] at this; exact this

theorem Rel.evInt (h : Rel C s β a w) {x : Operand} {k : IntKind} {n : Int} {f : Bool} (e : s.ev x = .one (.dat (.int k) n f)) : a.eval x = .int k n := by
  have := h.ev1 e
  simpa [AV.R, K.rd] using this

theorem Rel.evBool (h : Rel C s β a w) {x : Operand} {b f : Bool} (e : s.ev x = .one (.dat .bool b f)) : a.eval x = .bool b := by
  have := h.ev1 e
  simpa [AV.R, K.rd] using this

theorem hat_eq {h : Heap} {l : Nat} {o : AObj} (e : hat h l = o) (hne : o ≠ .dead) : ∃ f, h[l]? = some (f, o) := by
  unfold hat at e
  cases hl : h[l]? with
  | none => simp [hl] at e; exact absurd e.symm hne
  | some x => simp [hl] at e; exact ⟨x.1, by rw [← e]⟩

theorem Rel.obj (h : Rel C s β a w) {l : Nat} {o : AObj} (e : hat s.heap l = o) (hne : o ≠ .dead) :
    ∃ f r, s.heap[l]? = some (f, o) ∧ β[l]? = some r ∧ o.R w (C.N s.heap β w) (C.fresh s.heap β w) β r := by
  obtain ⟨f, hf⟩ := hat_eq e hne
  have hl : l < s.heap.length := (List.getElem?_eq_some_iff.1 hf).1
  obtain ⟨r, hr⟩ : ∃ r, β[l]? = some r := ⟨_, List.getElem?_eq_getElem (by rw [h.bsize]; exact hl)⟩
  exact ⟨f, r, hf, hr, h.ob l _ r hf hr⟩
end

/-! ### cells of a block -/
theorem cellsAt_block {w : World} {b : Nat} {T : TypeId} {fz : Nat × Nat} {pre mid post : List Value} (h : w.heap[b]? = some (.cells (pre ++ mid ++ post).toArray T fz)) :
    cellsAt w b pre.length mid := fun j v e => by
  have hj := (List.getElem?_eq_some_iff.1 e).1
  simp only [World.cell?, h]
  simp only [Option.isSome_none, Bool.false_eq_true, if_false, List.getElem?_toArray]
  rw [List.append_assoc, List.getElem?_append_right (by omega), List.getElem?_append_left (by omega)]
  simpa using e

theorem cellsAt.drop {w : World} {b o : Nat} {es : List Value} (h : cellsAt w b o es) (off : Nat) : cellsAt w b (o + off) (es.drop off) := fun j v e => by
  rw [List.getElem?_drop] at e
  rw [Nat.add_assoc]; exact h _ _ e

theorem cellsAt.take {w : World} {b o : Nat} {es : List Value} (h : cellsAt w b o es) (n : Nat) : cellsAt w b o (es.take n) := fun j v e => by
  refine h j v ?_
  rw [List.getElem?_take] at e
  split at e
  · exact e
  · simp at e

theorem addr_add (b o n : Nat) : (⟨b, o, none⟩ : Addr).add n = ⟨b, o + n, none⟩ := by
  unfold Addr.add; split <;> simp_all

theorem run_isAgg {P : Program} {t : TypeId} {d : TypeDesc} (hd : P.underlying t = some d) (w : World) : (isAgg t).run P w = .ok (isAggT P t) w := by
  unfold isAgg isAggT underlying
  simp only [Sem.run_bind, run_program, Result.andThen_ok, hd, Sem.run_pure]
  cases d <;> rfl

theorem run_sizeOf {P : Program} {t : TypeId} {i : TypeInfo} (hi : P.info? t = some i) (w : World) : (sizeOf t).run P w = .ok i.size w := by
  unfold sizeOf typeInfo
  simp only [Sem.run_bind, run_program, Result.andThen_ok, hi, Sem.run_pure]

theorem run_loadVar_cells {P : Program} {w : World} {t : TypeId} {d : TypeDesc} {i : TypeInfo} {b o : Nat} {es : List Value} (hd : P.underlying t = some d) (hi : P.info? t = some i)
    (hl : es.length = i.size) (hc : cellsAt w b o es) {v : Value} (hv : if isAggT P t then v = .agg es.toArray else es = [v]) :
    (loadVar t ⟨b, o, none⟩).run P w = .ok v w := by
  have hcells : (loadCells ⟨b, o, none⟩ es.length).run P w = .ok es.toArray w :=
    run_loadCells_list w _ es (fun j v e => by rw [addr_add]; exact hc j v e)
  unfold loadVar
  simp only [Sem.run_bind, run_isAgg hd, Result.andThen_ok]
  by_cases hg : isAggT P t = true
  · simp only [hg, if_true] at hv ⊢
    simp only [Sem.run_bind, run_sizeOf hi, Result.andThen_ok, ← hl, hcells, Sem.run_pure, hv]
  · simp only [hg] at hv ⊢
    have hc0 := hc 0 v (by rw [hv]; rfl)
    simp only [Bool.false_eq_true, if_false]
    rw [Nat.add_zero] at hc0
    rw [run_load, hc0]

section
variable {R : Type}

theorem gd_some {c : Prop} [Decidable c] {x : Option R} {r : R} (h : gd c x = some r) : c ∧ x = some r := by
  unfold gd at h; split at h
  · exact ⟨‹_›, h⟩
  · simp at h

theorem cut_some {P : Program} {t : TypeId} {cs : List AV} {off : Nat} {k : TV → Option R} {r : R} (h : cut P t cs off k = some r) :
    ∃ d i tv, P.underlying t = some d ∧ P.info? t = some i ∧ ((cs.drop off).take i.size).length = i.size ∧ shapeTV (isAggT P t) ((cs.drop off).take i.size) = some tv ∧ k tv = some r := by
  unfold cut at h
  split at h
  · rename_i d i hd hi
    dsimp only at h
    split at h
    · rename_i hl
      split at h
      · rename_i tv ht; exact ⟨d, i, tv, hd, hi, hl, ht, h⟩
      · simp at h
    · simp at h
  · simp at h

theorem shapeTV_R {w : World} {N Nf : Nat → Prop} {β : List Bl} {agg : Bool} {c : List AV} {tv : TV} {vs : List Value} (h : shapeTV agg c = some tv) (hc : All2 (AV.R w N Nf β) c vs) :
    ∃ v, tv.R w N Nf β v ∧ (if agg then v = .agg vs.toArray else vs = [v]) := by
  unfold shapeTV at h
  split at h
  · simp at h; subst h; exact ⟨.agg vs.toArray, ⟨vs, rfl, hc⟩, rfl⟩
  · simp at h; subst h
    match vs, hc with
    | [v], hc => exact ⟨v, hc.1, rfl⟩
  · simp at h

/-- A load out of cells that read as 'cs'. -/
theorem cut_load {P : Program} {w : World} {N Nf : Nat → Prop} {β : List Bl} {t : TypeId} {cs : List AV} {off b o : Nat} {es : List Value} {k : TV → Option R} {r : R}
    (h : cut P t cs off k = some r) (hc : All2 (AV.R w N Nf β) cs es) (ha : cellsAt w b o es) :
    ∃ tv v, k tv = some r ∧ (loadVar t ⟨b, o + off, none⟩).run P w = .ok v w ∧ tv.R w N Nf β v := by
  obtain ⟨d, i, tv, hd, hi, hl, ht, hk⟩ := cut_some h
  have hcc := (hc.drop off).take i.size
  obtain ⟨v, hv, he⟩ := shapeTV_R ht hcc
  exact ⟨tv, v, hk, run_loadVar_cells hd hi (by rw [← hcc.len]; exact hl) ((ha.drop off).take _) he, hv⟩

theorem rows.get {α : Type} {Q : α → List Value → Prop} {n : Nat} (hn : ∀ x c, Q x c → c.length = n) : ∀ {l : List α} {m : List Value}, rows Q l m → ∀ (i : Nat) (x : α), l[i]? = some x → Q x ((m.drop (i * n)).take n)
  | [], _, _, i, x, e => by simp at e
  | y :: l, _, ⟨c, cs', e, q, t⟩, 0, x, h => by
    simp at h; subst h
    have := hn _ _ q
    rw [e]; simp [← this]; exact q
  | y :: l, _, ⟨c, cs', e, q, t⟩, i + 1, x, h => by
    simp at h
    have := hn _ _ q
    have := rows.get hn t i x h
    rw [e, Nat.add_mul, Nat.one_mul, List.drop_append]
    rwa [List.drop_eq_nil_of_le (by omega), List.nil_append, show i * n + n - c.length = i * n by omega]

end
end Go.Proofs.AM
