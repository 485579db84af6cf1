/- Operations that turn memory. -/
import Derived.Test.YtefekolpfklhdaaAmA7
set_option maxRecDepth 2000
set_option linter.unusedVariables false
set_option linter.unusedSimpArgs false
namespace Go.Proofs.AM
open Go Go.RowKit

structure Ext (d : Nat → Prop) (s s' : AS) (β β' : List Bl) : Prop where
  bx : ∃ δ, β' = β ++ δ
  tm : ∀ i, ¬ d i → s'.tmps[i]? = s.tmps[i]?
  tl : s'.tmps.length = s.tmps.length
  hl : s.heap.length ≤ s'.heap.length
  hp : ∀ (l : Nat) (o : AObj), l < s.heap.length → s'.heap[l]? = some (false, o) → s.heap[l]? = some (false, o)
  mks : ∃ ms, s'.marks = ms ++ s.marks
  hm : ∀ (l : Nat), s.heap[l]? = some (true, .mark) → s'.heap[l]? = some (true, .mark)

theorem Ext.refl (d : Nat → Prop) (s : AS) (β : List Bl) : Ext d s s β β := ⟨⟨[], by simp⟩, fun _ _ => rfl, rfl, Nat.le_refl _, fun _ _ _ h => h, ⟨[], rfl⟩, fun _ h => h⟩
theorem Ext.trans {d : Nat → Prop} {s s' s'' : AS} {β β' β'' : List Bl} (h : Ext d s s' β β') (k : Ext d s' s'' β' β'') : Ext d s s'' β β'' := by
  obtain ⟨δ, rfl⟩ := h.bx
  obtain ⟨δ', rfl⟩ := k.bx
  exact ⟨⟨δ ++ δ', by simp⟩, fun i hi => (k.tm i hi).trans (h.tm i hi), k.tl.trans h.tl, Nat.le_trans h.hl k.hl, fun l o hl ho => h.hp l o hl (k.hp l o (Nat.lt_of_lt_of_le hl h.hl) ho), by
    obtain ⟨ms, e⟩ := h.mks
    obtain ⟨ns, e'⟩ := k.mks
    exact ⟨ns ++ ms, by rw [e', e, List.append_assoc]⟩, fun l hl => k.hm l (h.hm l hl)⟩
theorem Ext.mono {d d' : Nat → Prop} {s s' : AS} {β β' : List Bl} (h : Ext d s s' β β') (hd : ∀ i, d i → d' i) : Ext d' s s' β β' :=
  ⟨h.bx, fun i hi => h.tm i (fun x => hi (hd i x)), h.tl, h.hl, h.hp, h.mks, h.hm⟩

theorem Ext.put (s : AS) (β : List Bl) (d : Option Nat) (t : TV) : Ext (fun i => d = some i) s (s.put d t) β β := by
  cases d with
  | none => exact Ext.refl _ _ _
  | some j =>
    refine ⟨⟨[], by simp⟩, fun i hi => ?_, by simp [AS.put], Nat.le_refl _, fun _ _ _ h => h, ⟨[], rfl⟩, fun _ h => h⟩
    simp only [AS.put]
    rw [List.getElem?_set_ne (fun e => hi (by rw [e]))]

theorem Ext.push (d : Nat → Prop) (s : AS) (β : List Bl) (o : AObj) (r : Bl) : Ext d s (s.push o) β (β ++ [r]) :=
  ⟨⟨[r], rfl⟩, fun _ _ => rfl, rfl, by simp [AS.push], fun l o' hl ho => by
    simp only [AS.push] at ho
    rwa [List.getElem?_append_left hl] at ho, ⟨[], rfl⟩, fun l hl => get_app hl⟩

theorem Ext.upd (d : Nat → Prop) (s : AS) (β : List Bl) (l : Nat) (o : AObj) (hne : s.heap[l]? ≠ some (true, .mark)) : Ext d s (s.upd l o) β β :=
  ⟨⟨[], by simp⟩, fun _ _ => rfl, rfl, by simp [AS.upd], fun m o' hm ho => by
    simp only [AS.upd] at ho
    by_cases e : l = m
    · subst e; simp [hm] at ho
    · rwa [List.getElem?_set_ne e] at ho, ⟨[], rfl⟩, fun m hm => by
    simp only [AS.upd]
    rw [List.getElem?_set_ne (fun e => hne (by rw [e]; exact hm))]; exact hm⟩

/-! ### what a step may rest on: any function may be met, at any depth -/
def FW (F : Fence) : Prop := F = Fence.wide ∨ ∃ l, F = Fence.wide.inRound l

theorem FW.fn {F : Fence} (h : FW F) (f : FuncId) : F.fn f := by
  rcases h with rfl | ⟨l, rfl⟩ <;> exact trivial

theorem FW.depth {F : Fence} (h : FW F) : F.depth = none := by
  rcases h with rfl | ⟨l, rfl⟩ <;> rfl

theorem FW.calls {F : Fence} (h : FW F) {n : Nat} {P : Program} {f : FuncId} {args : Array Value} {w : World} {R : Ending → World → Prop} (hc : Calls P f args w R) : CallsIn F n P f args w R := by
  rcases h with rfl | ⟨l, rfl⟩
  · exact callsIn_wide.2 hc
  · exact CallsIn.inRound l (callsIn_wide.2 hc)

section
variable {P : Program} {F : Fence} {n : Nat} {o : Oper} {a : Act} {w w' : World} {K : Act → World → Prop} {Q : Exit → Act → World → Prop}

theorem wpIn_value (hF : FW F) (hd : ∀ c, o.op ≠ .defer c) {v : Value} (hr : (execOp a.eval o).run P w = .ok (.value v) w') (hK : K (a.put o.dst v) w') : o.wpIn F n P a w K Q := by
  refine ⟨fun f _ => hF.fn f, ?_⟩
  rw [Oper.semAt_eq _ _ _ hd, hr]
  exact hK

theorem wpIn_skip' (hF : FW F) (hd : ∀ c, o.op ≠ .defer c) (hr : (execOp a.eval o).run P w = .ok .skip w') (hK : K (a.put o.dst undef) w') : o.wpIn F n P a w K Q := by
  refine ⟨fun f _ => hF.fn f, ?_⟩
  rw [Oper.semAt_eq _ _ _ hd, hr]
  exact hK

theorem wpIn_enter (hF : FW F) (hd : ∀ c, o.op ≠ .defer c) {f : FuncId} {args : Array Value} (hr : (execOp a.eval o).run P w = .ok (.enter f args) w') {S : Ending → World → Prop}
    (hc : Calls P f args w' S) (hK : ∀ e w'', S e w'' → ∃ v, e = .returned v ∧ K (a.put o.dst v) w'') : o.wpIn F n P a w K Q := by
  refine ⟨fun f _ => hF.fn f, ?_⟩
  rw [Oper.semAt_eq _ _ _ hd, hr]
  refine ⟨fun h => by simp [hF.depth] at h, hF.calls (hc.mono fun e w'' h => ?_)⟩
  obtain ⟨v, rfl, hk⟩ := hK e w'' h
  exact hk

theorem wpIn_round (hF : FW F) (hd : ∀ c, o.op ≠ .defer c) {l : Nat} {f : FuncId} {tmps : Array Value} {assign body : Code} (hr : (execOp a.eval o).run P w = .ok (.round l f tmps assign body) w') {S : Ending → World → Prop}
    (hc : RoundIn F (n - 1) P l f tmps assign body w' S) (hK : ∀ e w'', S e w'' → ∃ v, e = .returned v ∧ K (a.put o.dst v) w'') : o.wpIn F n P a w K Q := by
  refine ⟨fun f _ => hF.fn f, ?_⟩
  rw [Oper.semAt_eq _ _ _ hd, hr]
  refine ⟨fun h => by simp [hF.depth] at h, hc.mono fun e w'' h => ?_⟩
  obtain ⟨v, rfl, hk⟩ := hK e w'' h
  exact hk
end

/-! ### cells that are one value each -/
theorem K.rd_one {w : World} {N : Nat → Prop} : ∀ (k : K) (x : k.den) (cs : List Value), k.rd w N x cs → ∀ u ∈ cs, u.oneCell' = true
  | .int k, n, cs, h => by simp [K.rd] at h; subst h; simp [Value.oneCell']
  | .bool, b, cs, h => by simp [K.rd] at h; subst h; simp [Value.oneCell']
  | .str, s, cs, h => by simp [K.rd] at h; subst h; simp [Value.oneCell']
  | .unit, _, cs, h => by simp [K.rd] at h; subst h; simp
  | .pair a b, x, cs, h => by
    obtain ⟨c, d, rfl, h1, h2⟩ := h
    intro u hu
    rcases List.mem_append.1 hu with hu | hu
    · exact K.rd_one a _ _ h1 u hu
    · exact K.rd_one b _ _ h2 u hu
  | .sl k, xs, cs, h => by obtain ⟨A, c, rfl, _⟩ := h; simp [Value.oneCell']
  | .rp k, xs, cs, h => by obtain ⟨A, c, _, rfl, _⟩ := h; simp [Value.oneCell']

theorem rows.one {w : World} {N : Nat → Prop} {k : K} : ∀ {xs : List k.den} {cs : List Value}, rows (k.rd w N) xs cs → ∀ u ∈ cs, u.oneCell' = true
  | [], _, h => by simp [rows] at h; subst h; simp
  | x :: xs, _, ⟨c, d, rfl, h1, h2⟩ => by
    intro u hu
    rcases List.mem_append.1 hu with hu | hu
    · exact K.rd_one k _ _ h1 u hu
    · exact rows.one h2 u hu

theorem All2.one {w : World} {N Nf : Nat → Prop} {β : List Bl} : ∀ {cs : List AV} {vs : List Value}, All2 (AV.R w N Nf β) cs vs → (cs.all AV.isOne = true) → ∀ u ∈ vs, u.oneCell' = true
  | [], [], _, _ => by simp
  | c :: cs, v :: vs, h, ho => by
    simp at ho
    intro u hu
    rcases List.mem_cons.1 hu with rfl | hu
    · exact (AV.R_one h.1 ho.1).2
    · exact All2.one h.2 (by simpa using ho.2) u hu
  | [], _ :: _, h, _ => h.elim
  | _ :: _, [], h, _ => h.elim

/-! ### what a slice holds -/
section
variable {P : Program} {C : Cx} {s : AS} {β : List Bl} {a : Act} {w : World}

theorem src_cells0 (h : Rel C s β a w) {x : AV} {v : Value} (hx : x.R w (C.N s.heap β w) (C.fresh s.heap β w) β v) {q : K} {ys : List q.den} {fr : Bool} (e : x.bor s.heap = .dat (.sl q) ys fr) :
    ∃ A c news, v = .slice A ys.length c ∧ ys.length ≤ c ∧ rows (q.rd w (if fr then C.fresh s.heap β w else C.N s.heap β w)) ys news ∧ (ys.length = 0 ∨ ∃ b o, A = some ⟨b, o, none⟩ ∧ cellsAt w b o news) := by
  unfold AV.bor at e
  split at e
  · rename_i l
    split at e
    · rename_i T q' xs fr' ho
      simp only [AV.dat.injEq, K.sl.injEq] at e
      obtain ⟨rfl, e2, rfl⟩ := e
      obtain rfl := eq_of_heq e2
      obtain ⟨rr, A, c, hr, rfl, hc, hsl⟩ := hx
      obtain ⟨f, b, hf, hb, hn, _⟩ := h.obj ho (by simp)
      rw [hr] at hb; cases hb
      by_cases hz : xs.length = 0
      · have : xs = [] := List.eq_nil_of_length_eq_zero hz
        subst this
        exact ⟨A, c, [], by rw [hn], by omega, rfl, .inl rfl⟩
      obtain ⟨f', b', mid, hf', hb', hreal, _, _, _, hcell, hrow⟩ := vec_cells h ho (by omega)
      rw [hr] at hb'; cases hb'
      refine ⟨A, c, mid, by rw [hn], by omega, hrow, .inr ?_⟩
      rcases hsl with ⟨_, rfl, _⟩ | ⟨h1, _⟩
      · exact ⟨rr.blk, rr.base, by simp [Bl.addr], hcell⟩
      · omega
    · simp at e
  · rename_i l off len
    split at e
    · rename_i T q' xs fr' ho
      simp only [AV.dat.injEq, K.sl.injEq] at e
      obtain ⟨rfl, e2, rfl⟩ := e
      obtain rfl := eq_of_heq e2
      obtain ⟨rr, A, c, hr, rfl, hc, hoff, hsl⟩ := hx
      obtain ⟨f, b, hf, hb, hn, _⟩ := h.obj ho (by simp)
      rw [hr] at hb; cases hb
      have hlen : ((xs.drop off).take len).length = len := by simp; omega
      by_cases hz : len = 0
      · subst hz
        exact ⟨A, c, [], by simp, by simp, by simp [rows], .inl hlen⟩
      obtain ⟨f', b', mid, hf', hb', hreal, _, hsz, _, hcell, hrow⟩ := vec_cells h ho (by omega)
      rw [hr] at hb'; cases hb'
      have hsplit : xs = xs.take off ++ ((xs.drop off).take len ++ (xs.drop off).drop len) := by
        rw [List.take_append_drop, List.take_append_drop]
      rw [hsplit] at hrow
      obtain ⟨m1, m2, rfl, r1, r2⟩ := rows.of_app hrow
      obtain ⟨m3, m4, rfl, r3, r4⟩ := rows.of_app r2
      have e1 := rows.len (fun x c => K.rd_len w _ q' x c) r1
      have e1' : m1.length = off * rr.sz := by rw [e1, hsz]; congr 1; simp; omega
      refine ⟨A, c, m3, by rw [hlen], by rw [hlen]; omega, r3, .inr ?_⟩
      rcases hsl with ⟨_, rfl, _⟩ | ⟨h1, _⟩
      · refine ⟨rr.blk, rr.base + off * rr.sz, by simp [Bl.addr], ?_⟩
        rw [← e1']; exact hcell.app.2.app.1
      · omega
    · simp at e
  · subst e
    obtain ⟨A, c, ev, hl, hcase⟩ := hx
    simp only [List.cons.injEq, and_true] at ev
    rcases hcase with hz | ⟨b, o, es, rfl, _, hc, hr⟩
    · have : ys = [] := List.eq_nil_of_length_eq_zero hz
      subst this
      exact ⟨A, c, [], ev, hl, rfl, .inl rfl⟩
    · exact ⟨_, c, es, ev, hl, hr, .inr ⟨b, o, rfl, hc⟩⟩

/-- The first cells of a slice, whatever of it is asked for. -/
theorem run_firstCells' {A : Option Addr} {len c size : Nat} {news : List Value} {m : Nat} (hl : news.length = m * size) (h : m = 0 ∨ ∃ b o, A = some ⟨b, o, none⟩ ∧ cellsAt w b o news) :
    (Builtin.firstCells size m (.slice A len c)).run P w = .ok news.toArray w := by
  rcases h with rfl | ⟨b, o, rfl, hc⟩
  · have : news = [] := List.eq_nil_of_length_eq_zero (by simpa using hl)
    subst this
    cases A with
    | none => simp [Builtin.firstCells]
    | some x => simp [Builtin.firstCells, loadCells, loadCellsFrom]
  · exact run_firstCells_some w size m _ len c news hl (fun j v e => by rw [addr_add]; exact hc j v e)

/-- New cells are stored into a block. -/
theorem run_store_block {b o : Nat} {T : TypeId} {pre old post news : List Value} (hh : w.heap[b]? = some (.cells (pre ++ old ++ post).toArray T (0, 0))) (hp : pre.length = o) (hl : old.length = news.length) (h1 : ∀ u ∈ news, u.oneCell' = true) :
    (storeCells ⟨b, o, none⟩ news).run P w = .ok () (w.setRow b (pre ++ news ++ post).toArray) := by
  subst hp
  have := run_storeCells_at P b pre.length T news 0 _ w hh (by simp; omega) h1
  rw [this]
  congr 3
  simp only [Nat.add_zero, List.append_assoc]
  rw [List.take_left, List.drop_append, List.drop_eq_nil_of_le (by omega), List.nil_append, show pre.length + news.length - pre.length = news.length by omega, ← hl, List.drop_left]

theorem setRow_same {b : Nat} {old new : Array Value} {T : TypeId} {fz : Nat × Nat} (h : w.heap[b]? = some (.cells old T fz)) : (w.setRow b new).heap[b]? = some (.cells new T fz) := setRow_heap w b old new T fz h

theorem rows_flat {w : World} {N N' : Nat → Prop} {q : K} (hf : q.flat = true) : ∀ {xs : List q.den} {cs : List Value}, rows (q.rd w N) xs cs → rows (q.rd w N') xs cs
  | [], _, h => h
  | x :: xs, _, ⟨c, d, e, h1, h2⟩ => ⟨c, d, e, K.rd_flat q _ _ hf h1, rows_flat hf h2⟩

theorem src_cells (h : Rel C s β a w) {x : AV} {v : Value} (hx : x.R w (C.N s.heap β w) (C.fresh s.heap β w) β v) {q : K} {ys : List q.den} {fr : Bool} (e : x.bor s.heap = .dat (.sl q) ys fr) :
    ∃ A c news, v = .slice A ys.length c ∧ ys.length ≤ c ∧ rows (q.rd w (if (fr || q.flat) = true then C.fresh s.heap β w else C.N s.heap β w)) ys news ∧ (ys.length = 0 ∨ ∃ b o, A = some ⟨b, o, none⟩ ∧ cellsAt w b o news) := by
  obtain ⟨A, c, news, h1, h2, h3, h4⟩ := src_cells0 h hx e
  refine ⟨A, c, news, h1, h2, ?_, h4⟩
  by_cases hf : q.flat = true
  · exact rows_flat hf h3
  · have : q.flat = false := by simpa using hf
    rw [this, Bool.or_false]
    exact h3

end
end Go.Proofs.AM
