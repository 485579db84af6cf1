/- The append's step; makes; copies. -/
import Derived.Test.YtefekolpfklhdaaAmA11
set_option maxRecDepth 2000
set_option linter.unusedVariables false
set_option linter.unusedSimpArgs false
namespace Go.Proofs.AM
open Go Go.RowKit

section
variable {P : Program} {C : Cx} {s : AS} {β : List Bl} {a : Act} {w : World} {R : Type} {k : AS → Option R} {r : R} {F : Fence} {n : Nat} {Q : Exit → Act → World → Prop} {o : Oper}

theorem rows_weak {q : K} {w w' : World} {M M' : Nat → Prop} (hb : ∀ b, M b → w'.heap[b]? = w.heap[b]?) (hM : ∀ b, M b → M' b) {xs : List q.den} {cs : List Value} (h : rows (q.rd w M) xs cs) : rows (q.rd w' M') xs cs :=
  h.mono fun x c hx => K.rd_mono hb hM q x c hx

theorem fl_weak {f g : Bool} {b : Nat} (h : (if f = true then C.fresh s.heap β w else C.N s.heap β w) b) (hg : g = true → f = true) : (if g = true then C.fresh s.heap β w else C.N s.heap β w) b := by
  cases g
  · cases f <;> first | exact h | exact Cx.fresh_N h
  · rw [hg rfl] at h; exact h

/-- The heart of an append. -/
theorem append_core (h : Rel C s β a w) {t ty e : TypeId} {i : TypeInfo} {z : List AV} (ht : P.underlying t = some (.slice e)) (hi : P.info? e = some i) (hz : azero P e = some z) {q : K} (hsz : i.size = q.size) (hzl : z.length = q.size)
    {x : AV} {v : Value} (hx : x.R w (C.N s.heap β w) (C.fresh s.heap β w) β v) {xs : List q.den} {fr1 : Bool} {l : Option Nat} (eo : aowned s.heap e q x = some (xs, fr1, l))
    {B : Option Addr} {c2 : Nat} {ys : List q.den} {fr2 : Bool} {news : List Value} (hrn : rows (q.rd w (if fr2 then C.fresh s.heap β w else C.N s.heap β w)) ys news)
    (hcn : ys.length = 0 ∨ ∃ b o, B = some ⟨b, o, none⟩ ∧ cellsAt w b o news) (hb1 : (xs.length + ys.length) * i.bytes ≤ 140737488355328) (hb2 : xs.length + ys.length ≤ 140737488355328) :
    ∃ v' w' rr, (Builtin.append_ #[t, t] ty #[v, .slice B ys.length c2]).run P w = .ok v' w' ∧ Rel C ((s.kill l).push (.vec e q (xs ++ ys) (fr1 && fr2))) (β ++ [rr]) a w' ∧
      (∃ A c, v' = .slice A rr.n c ∧ rr.n ≤ c ∧ rr.slice A 0 rr.n c) := by
  obtain ⟨A, c, olds, rfl, hnc, hro, hco, hkill, hcase⟩ := own_cells h hx eo
  obtain ⟨i', zv, hi', hzv, rfl⟩ := azero_some hz
  rw [hi] at hi'; cases hi'
  have lo := rows.len (fun x c => K.rd_len w _ q x c) hro
  have ln := rows.len (fun x c => K.rd_len w _ q x c) hrn
  have hone := rows.one hrn
  by_cases hroom : xs.length + ys.length ≤ c
  · rcases hcase with hc0 | ⟨m, rr, f, ob, pre, post, cap, hm1, hm2, hm3, hocc, rfl, hh, hcap, hcc⟩
    · -- nothing there, nothing comes
      have hx0 : xs = [] := List.eq_nil_of_length_eq_zero (by omega)
      have hy0 : ys = [] := List.eq_nil_of_length_eq_zero (by omega)
      subst hx0 hy0
      have hn0 : news = [] := by simpa [rows] using hrn
      subst hn0
      have hrel := h.move (w' := w) l hkill (.vec e q ([] ++ []) (fr1 && fr2)) ⟨0, 0, q.size, 0, 0, false, none⟩ rfl rfl rfl (Nat.le_refl _) (fun _ _ _ => rfl) (fun b hb => by simp [AObj.occ] at hb)
        (fun _ _ _ => ⟨rfl, rfl, Nat.le_refl _, rfl⟩)
      refine ⟨.slice A 0 c, w, ⟨0, 0, q.size, 0, 0, false, none⟩, ?_, hrel, A, c, rfl, by simp, .inr ⟨rfl, hc0⟩⟩
      have hn' : (Builtin.firstCells i.size 0 (.slice B 0 c2)).run P w = .ok [].toArray w := run_firstCells' (by simp) (.inl rfl)
      cases A with
      | none => exact run_append_in ht hi hn' (by omega) (fun b o e => by simp at e) (.inl ⟨rfl, rfl⟩)
      | some ad =>
        subst hc0
        simp only [List.length_nil]
        have : ∀ q, (storeCells q []).run P w = .ok () w := fun q => rfl
        simp [Builtin.append_, run_underlying ht, sizeOf, typeInfo, hi, Builtin.lenOf, hn', this]
    · -- in place
      have hcle : (xs.length + ys.length) * q.size ≤ olds.length + post.length := by rw [hcap]; exact Nat.mul_le_mul_right _ (by omega)
      have hpost : news.length ≤ post.length := by rw [lo, Nat.add_mul] at hcle; omega
      have hst := run_store_block (P := P) (w := w) (b := rr.blk) (o := pre.length + xs.length * i.size) (T := e) (pre := pre ++ olds) (old := post.take news.length) (post := post.drop news.length) (news := news)
        (by rw [hh]; simp) (by simp [lo, hsz]) (by simp; omega) hone
      have hn' : (Builtin.firstCells i.size ys.length (.slice B ys.length c2)).run P w = .ok news.toArray w := run_firstCells' (by rw [ln, hsz]) hcn
      have hrun := run_append_in (w' := w.setRow rr.blk (pre ++ olds ++ news ++ post.drop news.length).toArray) (ty := ty) ht hi (A := some ⟨rr.blk, pre.length, none⟩) (n := xs.length) (c := c) hn' hroom
        (fun b o e => by cases e; exact hst) (.inr ⟨_, _, rfl⟩)
      obtain ⟨f1, f2, f3, f4, f5⟩ := setRow_facts w rr.blk (pre ++ olds ++ news ++ post.drop news.length).toArray
      have hlt := (h.occ m _ rr rr.blk hm2 hm3 hocc).1
      refine ⟨_, _, ⟨rr.blk, pre.length, q.size, xs.length + ys.length, cap, true, none⟩, hrun, ?_, _, c, rfl, hroom, .inl ⟨rfl, by simp [Bl.addr], by simpa using hcc⟩⟩
      refine h.move l hkill _ _ f1 f2 f3 (by omega) (fun b hb hx => f5 b (fun e => hx m _ rr hm1 hm2 hm3 (by rw [e]; exact hocc))) (fun b hb => ?_) (fun hN hNf hbl => ?_)
      · simp only [AObj.occ, if_true, List.mem_singleton] at hb
        subst hb
        exact ⟨by omega, .inr ⟨m, _, rr, hm1, hm2, hm3, hocc⟩⟩
      · refine ⟨by simp, rfl, by show xs.length + ys.length ≤ cap; omega, ?_⟩
        simp only [if_true]
        refine ⟨pre, olds ++ news, post.drop news.length, ?_, rfl, ?_, ?_⟩
        · rw [setRow_same hh]; simp
        · have up : ∀ g, (g = true → False) ∨ True → True := fun _ _ => trivial
          have tgt : ∀ b, (if (fr1 && fr2) = true then C.fresh s.heap β w else C.N s.heap β w) b → (if (fr1 && fr2) = true then C.fresh ((s.kill l).push (.vec e q (xs ++ ys) (fr1 && fr2))).heap (β ++ [⟨rr.blk, pre.length, q.size, xs.length + ys.length, cap, true, none⟩]) (w.setRow rr.blk (pre ++ olds ++ news ++ post.drop news.length).toArray) else C.N ((s.kill l).push (.vec e q (xs ++ ys) (fr1 && fr2))).heap (β ++ [⟨rr.blk, pre.length, q.size, xs.length + ys.length, cap, true, none⟩]) (w.setRow rr.blk (pre ++ olds ++ news ++ post.drop news.length).toArray)) b := fun b hb => by
            by_cases hg : (fr1 && fr2) = true
            · rw [if_pos hg] at hb ⊢; exact hNf b hb
            · rw [if_neg hg] at hb ⊢; exact hN b hb
          have same : ∀ b, (if (fr1 && fr2) = true then C.fresh s.heap β w else C.N s.heap β w) b → (w.setRow rr.blk (pre ++ olds ++ news ++ post.drop news.length).toArray).heap[b]? = w.heap[b]? := fun b hb => hbl b (by
            by_cases hg : (fr1 && fr2) = true
            · rw [if_pos hg] at hb; exact Cx.fresh_N hb
            · rw [if_neg hg] at hb; exact hb)
          exact (rows_weak same tgt (rows_weak (fun _ _ => rfl) (fun b hb => fl_weak hb (by simp; exact fun h _ => h)) hro)).app
            (rows_weak same tgt (rows_weak (fun _ _ => rfl) (fun b hb => fl_weak hb (by simp)) hrn))
        · simp only [List.length_append, List.length_drop]
          show olds.length + news.length + (post.length - news.length) = cap * q.size
          omega
  · -- new memory
    have hco' : xs.length = 0 ∨ ∃ b o, A = some ⟨b, o, none⟩ ∧ cellsAt w.drew b o olds := hco
    have hcn' : ys.length = 0 ∨ ∃ b o, B = some ⟨b, o, none⟩ ∧ cellsAt w.drew b o news := hcn
    have ho' := run_firstCells' (P := P) (w := w.drew) (A := A) (len := xs.length) (c := c) (size := i.size) (news := olds) (m := xs.length) (by rw [lo, hsz]) hco'
    have hn' := run_firstCells' (P := P) (w := w.drew) (A := B) (len := ys.length) (c := c2) (size := i.size) (news := news) (m := ys.length) (by rw [ln, hsz]) hcn'
    have hrun := run_append_gen (ty := ty) ht hi hzv ho' hn' (by omega) (by omega) (growslice_fits (by omega) hb1)
    have hge := grownCap_ge w (xs.length + ys.length) c e
    have hnew : (w.drew.alloc (.cells (olds.toArray ++ news.toArray ++ Builtin.zeroCells zv.cells (grownCap w (xs.length + ys.length) c e - (xs.length + ys.length))) e)).heap[w.heap.size]? =
        some (.cells (olds.toArray ++ news.toArray ++ Builtin.zeroCells zv.cells (grownCap w (xs.length + ys.length) c e - (xs.length + ys.length))) e) := heap_alloc_new w.drew _
    have hold : ∀ b, b < w.heap.size → (w.drew.alloc (.cells (olds.toArray ++ news.toArray ++ Builtin.zeroCells zv.cells (grownCap w (xs.length + ys.length) c e - (xs.length + ys.length))) e)).heap[b]? = w.heap[b]? :=
      fun b hb => (Grew.alloc w.drew _).block b hb
    have hzs := constTV_len zv
    refine ⟨_, _, ⟨w.heap.size, 0, q.size, xs.length + ys.length, grownCap w (xs.length + ys.length) c e, true, none⟩, hrun, ?_, _, _, rfl, hge, .inl ⟨rfl, by simp [Bl.addr], by simp⟩⟩
    refine h.move l hkill _ _ rfl rfl rfl (by simp) (fun b hb _ => hold b hb) (fun b hb => ?_) (fun hN hNf hbl => ?_)
    · simp only [AObj.occ, if_true, List.mem_singleton] at hb
      subst hb
      exact ⟨by simp, .inl (Nat.le_refl _)⟩
    · refine ⟨by simp, rfl, hge, ?_⟩
      simp only [if_true]
      refine ⟨[], olds ++ news, (Builtin.zeroCells zv.cells (grownCap w (xs.length + ys.length) c e - (xs.length + ys.length))).toList, ?_, rfl, ?_, ?_⟩
      · rw [hnew]; congr 2; apply Array.ext'; simp
      · generalize hW : (w.drew.alloc (.cells (olds.toArray ++ news.toArray ++ Builtin.zeroCells zv.cells (grownCap w (xs.length + ys.length) c e - (xs.length + ys.length))) e)) = W at *
        have tgt : ∀ b, (if (fr1 && fr2) = true then C.fresh s.heap β w else C.N s.heap β w) b → (if (fr1 && fr2) = true then C.fresh ((s.kill l).push (.vec e q (xs ++ ys) (fr1 && fr2))).heap (β ++ [⟨w.heap.size, 0, q.size, xs.length + ys.length, grownCap w (xs.length + ys.length) c e, true, none⟩]) W else C.N ((s.kill l).push (.vec e q (xs ++ ys) (fr1 && fr2))).heap (β ++ [⟨w.heap.size, 0, q.size, xs.length + ys.length, grownCap w (xs.length + ys.length) c e, true, none⟩]) W) b := fun b hb => by
          by_cases hg : (fr1 && fr2) = true
          · rw [if_pos hg] at hb ⊢; exact hNf b hb
          · rw [if_neg hg] at hb ⊢; exact hN b hb
        have same : ∀ b, (if (fr1 && fr2) = true then C.fresh s.heap β w else C.N s.heap β w) b → W.heap[b]? = w.heap[b]? := fun b hb => hbl b (by
          by_cases hg : (fr1 && fr2) = true
          · rw [if_pos hg] at hb; exact Cx.fresh_N hb
          · rw [if_neg hg] at hb; exact hb)
        exact (rows_weak same tgt (rows_weak (fun _ _ => rfl) (fun b hb => fl_weak hb (by simp; exact fun h _ => h)) hro)).app
          (rows_weak same tgt (rows_weak (fun _ _ => rfl) (fun b hb => fl_weak hb (by simp)) hrn))
      · simp only [List.length_append, lo, ln, Array.length_toList, size_zeroCells, ← hzs, hzl, ← Nat.add_mul]
        congr 1; omega

theorem appendTo_step (hF : FW F) (h : Rel C s β a w) {c : Call} (ho : o.op = .call c) (hcal : c.callee = .builtin .append) {x y : Operand} {t : TypeId} (hargs : c.args = #[x, y]) (htys : c.argTypes = #[t, t]) {e : TypeId} (ht : aelem P t = some e)
    {xa : AV} (hx : s.ev x = .one xa) {q : K} {ys : List q.den} {fr2 : Bool} {B : Option Addr} {c2 : Nat} {news : List Value} (hy : a.eval y = .slice B ys.length c2)
    (hrn : rows (q.rd w (if fr2 then C.fresh s.heap β w else C.N s.heap β w)) ys news) (hcn : ys.length = 0 ∨ ∃ b o, B = some ⟨b, o, none⟩ ∧ cellsAt w b o news)
    (ee : aappendTo P s o.dst e q ys fr2 xa k = some r) : o.wpIn F n P a w (After C s β (fun i => o.dst = some i) k r) Q := by
  unfold aappendTo at ee
  split at ee
  rotate_left
  · simp at ee
  rename_i xs fr1 l i z hown hi hz
  split at ee
  rotate_left
  · simp at ee
  rename_i hs
  obtain ⟨hown, e0, -⟩ := avwOk_some ee hown; clear ee
  obtain ⟨hb1, e1⟩ := gd_some e0; clear e0
  obtain ⟨hb2, ee⟩ := gd_some e1; clear e1
  obtain ⟨_, _, _, _, _, _, _, hkl, _⟩ := own_cells h (h.ev1 hx) hown
  obtain ⟨v', w', rr, hrun, hrel, A, cc, hv', hcc, hsl⟩ := append_core (ty := o.type) h (aelem_some ht) hi hz hs.1 hs.2 (h.ev1 hx) hown (B := B) (c2 := c2) hrn hcn hb1 hb2
  refine wpIn_value hF (by simp [ho]) (v := v') (w' := w') ?_ ⟨_, _, ee, hrel.put _ _ _ ?_, ((Ext.kill _ s β l hkl).trans (Ext.push _ _ _ _ _)).trans (Ext.put _ _ _ _)⟩
  · simp only [execOp, ho, resolve, hcal, hargs, htys, List.map_toArray, List.map_cons, List.map_nil, Sem.run_bind, Sem.run_pure, Result.andThen_ok, invoke, builtin, hy, hrun]
  · exact ⟨rr, A, cc, by rw [← h.bsize]; simp, hv', hcc, hsl⟩

theorem append_step (hF : FW F) (h : Rel C s β a w) {c : Call} (ho : o.op = .call c) (hcal : c.callee = .builtin .append) (ee : aappend P s o c k = some r) :
    o.wpIn F n P a w (After C s β (fun i => o.dst = some i) k r) Q := by
  unfold aappend at ee
  split at ee
  rotate_left
  · simp at ee
  rename_i x y t t' hargs htys
  split at ee
  rotate_left
  · simp at ee
  rename_i htt
  subst htt
  have hargs' : c.args = #[x, y] := by rw [← Array.toArray_toList (xs := c.args), hargs]
  have htys' : c.argTypes = #[t, t] := by rw [← Array.toArray_toList (xs := c.argTypes), htys]
  split at ee
  rotate_left
  · simp at ee
  rename_i e xa ya ht hx hy
  split at ee
  · rename_i q ys fr2 hb
    obtain ⟨A, c2, news, hv, hle, hrn, hcn⟩ := src_cells h (h.ev1 hy) hb
    exact appendTo_step hF h ho hcal hargs' htys' ht hx hv hrn hcn ee
  · rename_i hb
    split at ee
    · rename_i q hq
      have hya : ya = .nilsl := by
        cases ya <;> simp [AV.bor] at hb ⊢
        all_goals (split at hb <;> simp at hb)
      have hv := h.ev1 hy
      rw [hya] at hv
      have hv : a.eval y = .slice none 0 0 := hv
      exact appendTo_step hF h ho hcal hargs' htys' ht hx (q := q) (ys := []) (B := none) (c2 := 0) (news := []) hv rfl (.inl rfl) ee
    · simp at ee
  · simp at ee
end
end Go.Proofs.AM
