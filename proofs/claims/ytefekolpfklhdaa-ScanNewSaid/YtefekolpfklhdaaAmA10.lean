/- Stores, appends, copies, makes. -/
import Derived.Test.YtefekolpfklhdaaAmA9
set_option maxRecDepth 2000
set_option linter.unusedVariables false
set_option linter.unusedSimpArgs false
namespace Go.Proofs.AM
open Go Go.RowKit

section
variable {P : Program} {C : Cx} {s : AS} {β : List Bl} {a : Act} {w : World} {R : Type} {k : AS → Option R} {r : R} {F : Fence} {n : Nat} {Q : Exit → Act → World → Prop} {o : Oper}

theorem setRow_facts (w : World) (b : Nat) (new : Array Value) : (w.setRow b new).os = w.os ∧ (w.setRow b new).tape = w.tape ∧ (w.setRow b new).output = w.output ∧ (w.setRow b new).heap.size = w.heap.size ∧
    ∀ i, i ≠ b → (w.setRow b new).heap[i]? = w.heap[i]? := ⟨rfl, rfl, rfl, by simp, fun i hi => setRow_other w b i new hi⟩

theorem store_step (hF : FW F) (h : Rel C s β a w) {t : TypeId} {x y : Operand} (ho : o.op = .store t x y) {d : AV} (hx : s.ev x = .one d)
    (e : astore P s t d (s.ev y) (fun s' => k (s'.put o.dst (.one .junk))) = some r) : o.wpIn F n P a w (After C s β (fun i => o.dst = some i) k r) Q := by
  unfold astore at e
  split at e
  · simp at e
  rename_i i hi
  split at e
  rotate_left
  · simp at e
  rename_i hcond
  obtain ⟨hsol, hlen, hone⟩ := hcond
  have hcl := TV.R_cells (h.ev y) hsol
  have hvl := hcl.len
  have h1 := hcl.one hone
  have hd := h.ev1 hx
  have run : ∀ (b o' : Nat) (w' : World), a.eval x = .pointer (some ⟨b, o', none⟩) → (storeCells ⟨b, o', none⟩ (a.eval y).cells.toList).run P w = .ok () w' → (execOp a.eval o).run P w = .ok .skip w' := by
    intro b o' w' hax hst
    simp only [execOp, ho, hax, Instr.storeAt, Instr.sureAddr, storeVar, Sem.run_bind, Sem.run_pure, Result.andThen_ok, run_sizeOf hi]
    rw [if_neg (by rw [← Array.length_toList, ← hvl, hlen]; simp)]
    simp only [Sem.run_bind, hst, Sem.run_pure, Result.andThen_ok]
  split at e
  · rename_i l off
    split at e
    rotate_left
    · simp at e
    rename_i T cs hob
    split at e
    rotate_left
    · simp at e
    rename_i hle
    obtain ⟨rr, hr, hax⟩ := hd
    obtain ⟨f, b, hf, hb, vs, hh, hz, hc⟩ := h.obj hob (by simp)
    rw [hr] at hb; cases hb
    have hvs := hc.len
    have hsplit : vs = vs.take off ++ ((vs.drop off).take i.size ++ (vs.drop off).drop i.size) := by rw [List.take_append_drop, List.take_append_drop]
    have hst := run_store_block (P := P) (w := w) (b := rr.blk) (o := off) (T := T) (pre := vs.take off) (old := (vs.drop off).take i.size) (post := (vs.drop off).drop i.size) (news := (a.eval y).cells.toList)
      (by rw [hh, List.append_assoc, ← hsplit]) (by simp; omega) (by rw [← hvl, hlen]; simp; omega) h1
    obtain ⟨f1, f2, f3, f4, f5⟩ := setRow_facts w rr.blk (List.take off vs ++ (a.eval y).cells.toList ++ List.drop i.size (List.drop off vs)).toArray
    obtain ⟨h2, mv⟩ := h.upd l _ (.box T (splice cs off (s.ev y).cells)) rr hf hr f1 f2 f3 (by omega) (fun b _ hb => f5 b (fun e => hb (by simp [AObj.occ, e]))) (by simp) (fun b hb => hb)
      (fun mv _ _ _ => ⟨_, setRow_same hh, hz, by
        have := (hc.splice (off := off) hcl).mono mv
        rw [← hvl, hlen] at this
        rw [← List.drop_drop] at this
        exact this⟩)
    refine wpIn_skip' hF (by simp [ho]) (run rr.blk off _ (by rw [hax, Bl.addr, hz]; simp) hst) ⟨_, _, e, h2.put _ _ _ trivial, (Ext.upd _ s β _ _ (by rw [hf]; simp)).trans (Ext.put _ _ _ _)⟩
  · rename_i l j off
    split at e
    rotate_left
    · simp at e
    rename_i T q xs fr hob
    split at e
    rotate_left
    · simp at e
    rename_i hle
    obtain ⟨hj, e⟩ := gd_some e
    split at e
    rotate_left
    · simp at e
    rename_i y' f' hk
    obtain ⟨rr, hr, hax⟩ := hd
    obtain ⟨f, b, hf, hb, g1, g2, g3, g4⟩ := h.obj hob (by simp)
    rw [hr] at hb; cases hb
    have hreal : rr.real = true := by
      cases hq : rr.real with
      | true => rfl
      | false => simp only [hq] at g4; have g4 : rr.n = 0 := g4; omega
    simp only [hreal, if_true] at g4
    obtain ⟨pre, mid, post, hh, hp, hrow, hcap⟩ := g4
    have hsplit : xs = xs.take j ++ (xs[j] :: xs.drop (j + 1)) := by rw [List.getElem_cons_drop, List.take_append_drop]
    have hxj : xs.getD j q.dflt = xs[j] := by simp [List.getElem?_eq_getElem hj]
    rw [hxj] at hk
    have hrow' := hrow
    rw [hsplit] at hrow'
    obtain ⟨m1, m2, rfl, r1, c, m3, rfl, r2, r3⟩ := rows.of_app hrow'
    have e1 := rows.len (fun x c => K.rd_len w _ q x c) r1
    have e1' : m1.length = j * rr.sz := by rw [e1, g2]; congr 1; simp; omega
    have hcs := K.cells_R (N := C.N s.heap β w) (Nf := C.fresh s.heap β w) (β := β) fr q _ _ r2
    have hsp := hcs.splice (off := off) hcl
    have hclen := K.rd_len w _ q _ _ r2
    have hy := of_sound h hsp hk
    have toN : ∀ g b, (if g = true then C.fresh s.heap β w else C.N s.heap β w) b → C.N s.heap β w b := fun g b hb => by cases g <;> first | exact hb | exact Cx.fresh_N hb
    have hweak : ∀ b, Dec C s β w false f' b → (if (fr && f') = true then C.fresh s.heap β w else C.N s.heap β w) b := fun b hb => by
      cases f' <;> cases fr <;> first | exact hb | exact Cx.fresh_N hb
    have hweak2 : ∀ b, (if fr = true then C.fresh s.heap β w else C.N s.heap β w) b → (if (fr && f') = true then C.fresh s.heap β w else C.N s.heap β w) b := fun b hb => by
      cases f' <;> cases fr <;> first | exact hb | exact Cx.fresh_N hb
    have hnl : (a.eval y).cells.toList.length = i.size := by rw [← hvl, hlen]
    have hcsplit : c = c.take off ++ ((c.drop off).take i.size ++ (c.drop off).drop i.size) := by rw [List.take_append_drop, List.take_append_drop]
    have hsame : pre ++ (m1 ++ (c ++ m3)) ++ post = pre ++ m1 ++ c.take off ++ (c.drop off).take i.size ++ ((c.drop off).drop i.size ++ m3 ++ post) := by
      have : c ++ (m3 ++ post) = c.take off ++ ((c.drop off).take i.size ++ ((c.drop off).drop i.size ++ (m3 ++ post))) := by
        conv => lhs; rw [hcsplit]
        simp only [List.append_assoc]
      simp only [List.append_assoc, this]
    have hrows : ∀ (w' : World) (M' : Nat → Prop), (∀ b, (if (fr && f') = true then C.fresh s.heap β w else C.N s.heap β w) b → w'.heap[b]? = w.heap[b]?) →
        (∀ b, (if (fr && f') = true then C.fresh s.heap β w else C.N s.heap β w) b → M' b) →
        rows (q.rd w' M') (xs.set j y') (m1 ++ (c.take off ++ (a.eval y).cells.toList ++ (c.drop off).drop i.size) ++ m3) := by
      intro w' M' hw' hM'
      have up : ∀ (x : q.den) (cc : List Value), q.rd w (if fr = true then C.fresh s.heap β w else C.N s.heap β w) x cc → q.rd w' M' x cc := fun x cc hx =>
        K.rd_mono hw' hM' q x cc (K.rd_mono (fun _ _ => rfl) hweak2 q x cc hx)
      have hy' := K.rd_mono hw' hM' q _ _ (K.rd_mono (fun _ _ => rfl) hweak q _ _ hy)
      rw [hnl, ← List.drop_drop] at hy'
      have hset : xs.set j y' = xs.take j ++ y' :: xs.drop (j + 1) := by rw [List.set_eq_take_append_cons_drop, if_pos hj]
      rw [hset, List.append_assoc m1]
      exact (r1.mono up).app ⟨_, m3, rfl, hy', r3.mono up⟩
    have hst := run_store_block (P := P) (w := w) (b := rr.blk) (o := rr.base + (j * rr.sz + off)) (T := T) (pre := pre ++ m1 ++ c.take off) (old := (c.drop off).take i.size) (post := (c.drop off).drop i.size ++ m3 ++ post) (news := (a.eval y).cells.toList)
      (by rw [hh, hsame]) (by simp [hp, e1']; omega) (by rw [hnl]; simp; omega) h1
    obtain ⟨f1, f2, f3, f4, f5⟩ := setRow_facts w rr.blk (pre ++ m1 ++ c.take off ++ (a.eval y).cells.toList ++ ((c.drop off).drop i.size ++ m3 ++ post)).toArray
    obtain ⟨h2, mv⟩ := h.upd l _ (.vec T q (xs.set j y') (fr && f')) rr hf hr f1 f2 f3 (by omega) (fun b _ hb => f5 b (fun e => hb (by simp [AObj.occ, e, hreal]))) (by simp) (fun b hb => hb)
      (fun mv hN hNf hbl => by
        refine ⟨by simpa using g1, g2, g3, ?_⟩
        simp only [hreal, if_true]
        refine ⟨pre, m1 ++ (c.take off ++ (a.eval y).cells.toList ++ (c.drop off).drop i.size) ++ m3, post, ?_, hp, ?_, ?_⟩
        · rw [setRow_same hh]; simp
        · refine hrows _ _ (fun b hb => hbl b (toN _ b hb)) fun b hb => ?_
          by_cases hg : (fr && f') = true
          · rw [if_pos hg] at hb ⊢; exact hNf b hb
          · rw [if_neg hg] at hb ⊢; exact hN b hb
        · simp only [List.length_append] at hcap ⊢
          have : (c.take off).length + (a.eval y).cells.toList.length + ((c.drop off).drop i.size).length = c.length := by rw [hnl]; simp; omega
          omega)
    refine wpIn_skip' hF (by simp [ho]) (run rr.blk _ _ (by rw [hax, Bl.addr]) hst) ⟨_, _, e, h2.put _ _ _ trivial, (Ext.upd _ s β _ _ (by rw [hf]; simp)).trans (Ext.put _ _ _ _)⟩
  · simp at e
end
end Go.Proofs.AM
