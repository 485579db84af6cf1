/- Maps: the steps. -/
import Derived.Test.YtefekolpfklhdaaAmM1
set_option maxRecDepth 2000
set_option linter.unusedVariables false
set_option linter.unusedSimpArgs false
namespace Go.Proofs.AM
open Go Go.RowKit

section
variable {P : Program} {C : Cx} {s : AS} {β : List Bl} {a : Act} {w : World} {R : Type} {F : Fence} {n : Nat} {Q : Exit → Act → World → Prop} {o : Oper}

theorem K.cells_valR {N Nf : Nat → Prop} {k : Bool × K} {fr : Bool} {x : k.2.den} {v : Value} (h : valR w (if fr then Nf else N) k x v) : compR w N Nf β (k.1, k.2.cells fr x) v := by
  obtain ⟨ka, kk⟩ := k
  cases ka with
  | true =>
    obtain ⟨cs, rfl, h⟩ := h
    exact ⟨cs, rfl, K.cells_R fr kk x cs h⟩
  | false =>
    have h : kk.rd w (if fr then Nf else N) x [v] := h
    have hc := K.cells_R (N := N) (Nf := Nf) (β := β) fr kk x [v] h
    show compR w N Nf β (false, K.cells fr kk x) v
    generalize K.cells fr kk x = cc at hc
    match cc, hc with
    | [c], hc => exact hc.1

theorem shape_comp {N Nf : Nat → Prop} {b : Bool} {cs : List AV} {v : Value} (h : compR w N Nf β (b, cs) v) {tv : TV} (e : shapeTV b cs = some tv) : tv.R w N Nf β v := by
  unfold shapeTV at e
  split at e
  · simp only [Option.some.injEq] at e; subst e; exact h
  · simp only [Option.some.injEq] at e; subst e; exact h
  · simp at e

theorem alookup_sound (h : Rel C s β a w) {t : TypeId} {x i : Operand} {ok : Bool} (ho : o.op = .lookup t x i ok) {k : TV → Option R} {r : R} (e : alookup P s.heap t (s.ev x) (s.ev i) ok k = some r) :
    ∃ tv v, k tv = some r ∧ (execOp a.eval o).run P w = .ok (.value v) w ∧ tv.R w (C.N s.heap β w) (C.fresh s.heap β w) β v := by
  unfold alookup at e
  split at e
  rotate_left
  · simp at e
  rename_i kt vt l hu hx
  split at e
  rotate_left
  · simp at e
  rename_i ki vi es fr hob
  split at e
  rotate_left
  · simp at e
  rename_i hk
  split at e
  rotate_left
  · simp at e
  rename_i xk f z hxk hz
  obtain ⟨rr, hr, hv⟩ := h.ev1 hx
  obtain ⟨ff, r0, g1, g2, l0, ck, g3, g4, g5⟩ := h.obj hob (by simp)
  rw [hr] at g2; cases g2
  have hkey := decT_sound h (h.ev i) hxk
  obtain ⟨zv, hzr, hzv⟩ := zeroD_sound h hz
  have hobj : (getObj rr.blk).run P w = .ok (.map l0.toArray ck) w := by simp [getObj, Sem.run, g3]
  have res : ∃ v b, (Instr.lookup t (a.eval x) (a.eval i) ok).run P w = .ok (if ok then .tuple #[v, .bool b] else v) w ∧ b = mhas ki es xk ∧ valR w (if fr then C.fresh s.heap β w else C.N s.heap β w) vi (mget ki es xk z) v := by
    rcases findKey_spec (vi := vi) hk hkey g5 with ⟨h1, h2, h3, _, _⟩ | ⟨j, p, e, h1, h2, h3, h4, h5, _, _, _⟩
    · refine ⟨zv, false, ?_, h1.symm, ?_⟩
      · simp only [Instr.lookup, Sem.run_bind, run_underlying' hu, Result.andThen_ok, hv, hobj, Sem.run_pure, run_checkKey hk hkey, h2, hzr]
      · rw [h3]
        have : valR w (C.fresh s.heap β w) vi z zv := hzv
        cases fr
        · exact valR_mono (fun _ _ => rfl) (fun b hb => Cx.fresh_N hb) this
        · exact this
    · refine ⟨e.val, true, ?_, h1.symm, ?_⟩
      · simp only [Instr.lookup, Sem.run_bind, run_underlying' hu, Result.andThen_ok, hv, hobj, Sem.run_pure, run_checkKey hk hkey, h4]
      · rw [h5]
        obtain ⟨e', he', hp⟩ := All2.get2' g5 h2
        rw [h3] at he'; cases he'
        exact hp.2
  obtain ⟨v, b, hrun, rfl, hvr⟩ := res
  have hex : (execOp a.eval o).run P w = .ok (.value (if ok then .tuple #[v, .bool (mhas ki es xk)] else v)) w := by
    simp only [execOp, ho, Sem.run_bind, hrun, Result.andThen_ok, Sem.run_pure]
  have hcomp := K.cells_valR (β := β) (N := C.N s.heap β w) (Nf := C.fresh s.heap β w) hvr
  cases ok with
  | true => exact ⟨_, _, e, hex, [v, .bool (mhas ki es xk)], rfl, hcomp, rfl, trivial⟩
  | false =>
    simp only [Bool.false_eq_true, if_false] at e
    split at e
    · rename_i tv htv; exact ⟨_, _, e, hex, shape_comp hcomp htv⟩
    · simp at e
end
end Go.Proofs.AM
