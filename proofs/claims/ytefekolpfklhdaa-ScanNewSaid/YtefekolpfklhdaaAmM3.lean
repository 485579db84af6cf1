/- Maps: steps that turn them. -/
import Derived.Test.YtefekolpfklhdaaAmM2
set_option maxRecDepth 2000
set_option linter.unusedVariables false
set_option linter.unusedSimpArgs false
namespace Go.Proofs.AM
open Go Go.RowKit

theorem valR_flat {w w' : World} {N N' : Nat → Prop} {k : Bool × K} (hf : k.2.flat = true) {x : k.2.den} {v : Value} (h : valR w N k x v) : valR w' N' k x v := by
  obtain ⟨ka, kk⟩ := k
  cases ka with
  | true => obtain ⟨cs, e, h⟩ := h; exact ⟨cs, e, K.rd_flat _ _ _ hf h⟩
  | false => exact K.rd_flat _ _ _ hf h

theorem Stamps.push {l : List MapEntry} {ck : Nat} (h : Stamps l ck) (k v : Value) : Stamps (l ++ [{ key := k, val := v, born := ck }]) (ck + 1) := by
  refine ⟨fun e he => ?_, ?_⟩
  · rcases List.mem_append.1 he with he | he
    · have := h.lt e he; omega
    · simp at he; subst he; simp
  · rw [List.map_append, List.nodup_append]
    refine ⟨h.nd, by simp, fun a ha b hb => ?_⟩
    simp at hb; subst hb
    obtain ⟨e, he, rfl⟩ := List.mem_map.1 ha
    have := h.lt e he; omega

theorem Stamps.set {l : List MapEntry} {ck : Nat} (h : Stamps l ck) {j : Nat} {e e' : MapEntry} (he : l[j]? = some e) (hb : e'.born = e.born) : Stamps (l.set j e') ck := by
  have hm : (l.set j e').map (·.born) = l.map (·.born) := by
    apply List.ext_getElem?
    intro i
    simp only [List.getElem?_map, List.getElem?_set]
    have hj := (List.getElem?_eq_some_iff.1 he).1
    split
    · rename_i hh; subst hh; have := (List.getElem?_eq_some_iff.1 he).2; simp [hb, hj, this]
    · rfl
  refine ⟨fun x hx => ?_, by rw [hm]; exact h.nd⟩
  have : x.born ∈ (l.set j e').map (·.born) := List.mem_map_of_mem hx
  rw [hm] at this
  obtain ⟨y, hy, hxy⟩ := List.mem_map.1 this
  rw [← hxy]; exact h.lt y hy

theorem Stamps.erase {l : List MapEntry} {ck : Nat} (h : Stamps l ck) (j : Nat) : Stamps (l.eraseIdx j) ck :=
  ⟨fun e he => h.lt e ((List.eraseIdx_sublist l j).subset he), by
    have := (List.eraseIdx_sublist l j).map (fun e : MapEntry => e.born)
    exact this.nodup h.nd⟩

theorem All2.eraseIdx {α β : Type} {R : α → β → Prop} : ∀ {l : List α} {m : List β} (j : Nat), All2 R l m → All2 R (l.eraseIdx j) (m.eraseIdx j)
  | [], [], _, _ => trivial
  | _ :: _, _ :: _, 0, h => h.2
  | _ :: _, _ :: _, j + 1, h => ⟨h.1, All2.eraseIdx j h.2⟩
  | [], _ :: _, _, h => h.elim
  | _ :: _, [], _, h => h.elim

section
variable {P : Program} {C : Cx} {s : AS} {β : List Bl} {a : Act} {w : World} {R : Type} {k : AS → Option R} {r : R} {F : Fence} {n : Nat} {Q : Exit → Act → World → Prop} {o : Oper}

theorem makeMap_step (hF : FW F) (h : Rel C s β a w) {t : TypeId} (ho : o.op = .makeMap t none) (ee : amakeMap P s o t k = some r) :
    o.wpIn F n P a w (After C s β (fun i => o.dst = some i) k r) Q := by
  unfold amakeMap at ee
  split at ee
  rotate_left
  · simp at ee
  split at ee
  rotate_left
  · simp at ee
  rename_i kt vt hu _ _ kk vk _ _
  have hrun : (execOp a.eval o).run P w = .ok (.value (.map (some w.heap.size))) (w.alloc (.map #[] 0)) := by
    simp only [execOp, ho, Option.map_none, Instr.makeMap, Sem.run_bind, run_newObj_alloc, Result.andThen_ok, Sem.run_pure]
  have hnew : (w.alloc (.map #[] 0)).heap[w.heap.size]? = some (.map #[] 0) := World.alloc_heap_new _ _
  obtain ⟨h2, mv⟩ := h.push (Grew.alloc w (.map #[] 0)) (.map (isAggT P kt, kk) (isAggT P vt, vk) [] true) ⟨w.heap.size, 0, 0, 0, 0, true, none⟩
    (fun b hb => by simp only [AObj.occ, List.mem_singleton] at hb; subst hb; simp)
    (fun mv hN hNf => ⟨[], 0, hnew, ⟨by simp, by simp⟩, trivial⟩)
  refine wpIn_value hF (by simp [ho]) hrun ⟨_, _, ee, h2.put _ _ _ ?_, (Ext.push _ s β _ _).trans (Ext.put _ _ _ _)⟩
  exact ⟨⟨w.heap.size, 0, 0, 0, 0, true, none⟩, by rw [← h.bsize]; simp, rfl⟩

/-- A map is written anew. -/
theorem map_turn (h : Rel C s β a w) {l : Nat} {ki vi : Bool × K} {es es' : List (ki.2.den × vi.2.den)} {fr fr' : Bool} {ff : Bool} {rr : Bl} (hf : s.heap[l]? = some (ff, .map ki vi es fr)) (hr : β[l]? = some rr)
    {l0 : List MapEntry} {ck : Nat} (hh : w.heap[rr.blk]? = some (.map l0.toArray ck)) {l1 : List MapEntry} {ck' : Nat} (hst : Stamps l1 ck')
    (hen : ∀ (N' Nf' : Nat → Prop) (w' : World), (∀ b, C.N s.heap β w b → N' b) → (∀ b, C.fresh s.heap β w b → Nf' b) → (∀ b, C.N s.heap β w b → w'.heap[b]? = w.heap[b]?) → All2 (entR w' (if fr' then Nf' else N') ki vi) es' l1) :
    Rel C (s.upd l (.map ki vi es' fr')) β a (w.putObj rr.blk (.map l1.toArray ck')) := by
  have hlt : rr.blk < w.heap.size := (Array.getElem?_eq_some_iff.1 hh).1
  exact (h.upd (w' := w.putObj rr.blk (.map l1.toArray ck')) l _ (.map ki vi es' fr') rr hf hr rfl rfl rfl (by simp [World.putObj]) (fun b _ hb => World.putObj_heap_other (fun e => hb (by simp [AObj.occ, ← e]))) (by simp) (fun b hb => hb)
    (fun mv hN hNf hbl => ⟨l1, ck', World.putObj_heap_same hlt, hst, hen _ _ _ hN hNf hbl⟩)).1

theorem mapUpdate_step (hF : FW F) (h : Rel C s β a w) {t : TypeId} {m i x : Operand} (ho : o.op = .mapUpdate t m i x) (ee : amapUpdate P s t (s.ev m) (s.ev i) (s.ev x) (fun s' => k (s'.put o.dst (.one .junk))) = some r) :
    o.wpIn F n P a w (After C s β (fun i => o.dst = some i) k r) Q := by
  unfold amapUpdate at ee
  split at ee
  rotate_left
  · simp at ee
  rename_i kt vt l hu hm
  split at ee
  rotate_left
  · simp at ee
  rename_i ki vi es fr hob
  split at ee
  rotate_left
  · simp at ee
  rename_i hk
  split at ee
  rotate_left
  · simp at ee
  rename_i xk f1 y f hxk hy
  obtain ⟨rr, hr, hv⟩ := h.ev1 hm
  obtain ⟨ff, r0, g1, g2, l0, ck, g3, g4, g5⟩ := h.obj hob (by simp)
  rw [hr] at g2; cases g2
  have hkey := decT_sound h (h.ev i) hxk
  have hval := decT_sound h (h.ev x) hy
  have hobj : (getObj rr.blk).run P w = .ok (.map l0.toArray ck) w := by simp [getObj, Sem.run, g3]
  have hset : ∀ ob, (setObj rr.blk ob).run P w = .ok () (w.putObj rr.blk ob) := fun ob => by simp [setObj, Sem.run, g3, World.putObj]
  have old : ∀ (N' Nf' : Nat → Prop) (w' : World), (∀ b, C.N s.heap β w b → N' b) → (∀ b, C.fresh s.heap β w b → Nf' b) → (∀ b, C.N s.heap β w b → w'.heap[b]? = w.heap[b]?) →
      All2 (entR w' (if fr && (f || vi.2.flat) then Nf' else N') ki vi) es l0 := fun N' Nf' w' hN hNf hb => g5.mono fun p e hp => by
    cases fr
    · exact entR_mono hb hN hp
    · cases hff : (f || vi.2.flat)
      · exact entR_mono (fun b h => hb b (Cx.fresh_N h)) (fun b h => hN b (Cx.fresh_N h)) hp
      · exact entR_mono (fun b h => hb b (Cx.fresh_N h)) hNf hp
  have new : ∀ (N' Nf' : Nat → Prop) (w' : World), (∀ b, C.N s.heap β w b → N' b) → (∀ b, C.fresh s.heap β w b → Nf' b) → (∀ b, C.N s.heap β w b → w'.heap[b]? = w.heap[b]?) →
      valR w' (if fr && (f || vi.2.flat) then Nf' else N') ki xk (a.eval i) ∧ valR w' (if fr && (f || vi.2.flat) then Nf' else N') vi y (a.eval x) := fun N' Nf' w' hN hNf hb => by
    refine ⟨valR_flat (keyOk_flat hk) hkey, ?_⟩
    cases hfl : vi.2.flat with
    | true => exact valR_flat hfl hval
    | false =>
      cases f with
      | false => rw [Bool.or_false, Bool.and_false]; exact valR_mono hb hN hval
      | true => cases fr with
        | false => exact valR_mono (fun b h => hb b (Cx.fresh_N h)) (fun b h => hN b (Cx.fresh_N h)) hval
        | true => exact valR_mono (fun b h => hb b (Cx.fresh_N h)) hNf hval
  have fin : ∀ (l1 : List MapEntry) (ck' : Nat), (Instr.mapUpdate t (a.eval m) (a.eval i) (a.eval x)).run P w = .ok () (w.putObj rr.blk (.map l1.toArray ck')) → Stamps l1 ck' →
      (∀ (N' Nf' : Nat → Prop) (w' : World), (∀ b, C.N s.heap β w b → N' b) → (∀ b, C.fresh s.heap β w b → Nf' b) → (∀ b, C.N s.heap β w b → w'.heap[b]? = w.heap[b]?) → All2 (entR w' (if fr && (f || vi.2.flat) then Nf' else N') ki vi) (mset ki es xk y) l1) →
      o.wpIn F n P a w (After C s β (fun i => o.dst = some i) k r) Q := fun l1 ck' hrun hst hen => by
    have h2 := map_turn h g1 hr g3 hst hen
    refine wpIn_skip' hF (by simp [ho]) (w' := w.putObj rr.blk (.map l1.toArray ck')) ?_ ⟨_, _, ee, h2.put _ _ _ trivial, (Ext.upd _ s β _ _ (by rw [g1]; simp)).trans (Ext.put _ _ _ _)⟩
    simp only [execOp, ho, Sem.run_bind, hrun, Result.andThen_ok, Sem.run_pure]
  rcases findKey_spec (vi := vi) hk hkey g5 with ⟨_, h2, _, h4, _⟩ | ⟨j, p, e, _, h2, h3, h4, _, h6, _, h8⟩
  · refine fin (l0 ++ [{ key := a.eval i, val := a.eval x, born := ck }]) (ck + 1) ?_ (g4.push _ _) (fun N' Nf' w' hN hNf hb => ?_)
    · simp only [Instr.mapUpdate, Sem.run_bind, run_underlying' hu, Result.andThen_ok, hv, hobj, run_checkKey hk hkey, h2, hset]
      simp
    · rw [h4]; exact (old N' Nf' w' hN hNf hb).app ⟨⟨(new N' Nf' w' hN hNf hb).1, (new N' Nf' w' hN hNf hb).2⟩, trivial⟩
  · refine fin (l0.set j { e with key := a.eval i, val := a.eval x }) ck ?_ (g4.set h3 rfl) (fun N' Nf' w' hN hNf hb => ?_)
    · have hmod : l0.toArray.modify j (fun e => { e with key := a.eval i, val := a.eval x }) = (l0.set j { e with key := a.eval i, val := a.eval x }).toArray := by
        apply Array.ext'
        simp only [Array.toList_modify]
        apply List.ext_getElem?
        intro i'
        rw [List.getElem?_modify, List.getElem?_set]
        have hj := (List.getElem?_eq_some_iff.1 h3).1
        split
        · rename_i hh; subst hh; have h3' := (List.getElem?_eq_some_iff.1 h3).2; simp [hj, h3']
        · simp
      have hstay : (Instr.keyThatStays e.key (a.eval i)).run P w = .ok (a.eval i) w := by simp [Instr.keyThatStays, h8]
      simp only [Instr.mapUpdate, Sem.run_bind, run_underlying' hu, Result.andThen_ok, hv, hobj, run_checkKey hk hkey, h4]
      simp only [List.getElem?_toArray, h3, Option.map_some, Option.getD_some, hstay, Result.andThen_ok, hmod, hset]
    · rw [h6]; exact (old N' Nf' w' hN hNf hb).set j (new N' Nf' w' hN hNf hb)

theorem delete_step (hF : FW F) (h : Rel C s β a w) {c : Call} (ho : o.op = .call c) (hcal : c.callee = .builtin .delete) (ee : adelete P s o c k = some r) :
    o.wpIn F n P a w (After C s β (fun i => o.dst = some i) k r) Q := by
  unfold adelete at ee
  split at ee
  rotate_left
  · simp at ee
  rename_i m i t rest hargs htys
  split at ee
  rotate_left
  · simp at ee
  rename_i kt vt l hu hm
  split at ee
  rotate_left
  · simp at ee
  rename_i ki vi es fr hob
  split at ee
  rotate_left
  · simp at ee
  rename_i hk
  split at ee
  rotate_left
  · simp at ee
  rename_i xk f1 hxk
  obtain ⟨rr, hr, hv⟩ := h.ev1 hm
  obtain ⟨ff, r0, g1, g2, l0, ck, g3, g4, g5⟩ := h.obj hob (by simp)
  rw [hr] at g2; cases g2
  have hkey := decT_sound h (h.ev i) hxk
  have hobj : (getObj rr.blk).run P w = .ok (.map l0.toArray ck) w := by simp [getObj, Sem.run, g3]
  have hset : ∀ ob, (setObj rr.blk ob).run P w = .ok () (w.putObj rr.blk ob) := fun ob => by simp [setObj, Sem.run, g3, World.putObj]
  have hargs' : c.args = #[m, i] := by rw [← Array.toArray_toList (xs := c.args), hargs]
  have ht0 : c.argTypes[0]? = some t := by rw [← Array.getElem?_toList, htys]; rfl
  have old : ∀ (N' Nf' : Nat → Prop) (w' : World), (∀ b, C.N s.heap β w b → N' b) → (∀ b, C.fresh s.heap β w b → Nf' b) → (∀ b, C.N s.heap β w b → w'.heap[b]? = w.heap[b]?) →
      All2 (entR w' (if fr then Nf' else N') ki vi) es l0 := fun N' Nf' w' hN hNf hb => g5.mono fun p e hp => by
    cases fr
    · exact entR_mono hb hN hp
    · exact entR_mono (fun b h => hb b (Cx.fresh_N h)) hNf hp
  have fin : ∀ (l1 : List MapEntry) (ck' : Nat), (Builtin.delete_ c.argTypes o.type #[a.eval m, a.eval i]).run P w = .ok (.tuple #[]) (w.putObj rr.blk (.map l1.toArray ck')) → Stamps l1 ck' →
      (∀ (N' Nf' : Nat → Prop) (w' : World), (∀ b, C.N s.heap β w b → N' b) → (∀ b, C.fresh s.heap β w b → Nf' b) → (∀ b, C.N s.heap β w b → w'.heap[b]? = w.heap[b]?) → All2 (entR w' (if fr then Nf' else N') ki vi) (mdel ki es xk) l1) →
      o.wpIn F n P a w (After C s β (fun i => o.dst = some i) k r) Q := fun l1 ck' hrun hst hen => by
    have h2 := map_turn h g1 hr g3 hst hen
    refine wpIn_value hF (by simp [ho]) (w' := w.putObj rr.blk (.map l1.toArray ck')) (v := .tuple #[]) ?_ ⟨_, _, ee, h2.put _ _ _ ⟨[], rfl, trivial⟩, (Ext.upd _ s β _ _ (by rw [g1]; simp)).trans (Ext.put _ _ _ _)⟩
    simp only [execOp, ho, resolve, hcal, hargs', List.map_toArray, List.map_cons, List.map_nil, Sem.run_bind, Sem.run_pure, Result.andThen_ok, invoke, builtin, hrun]
  rcases findKey_spec (vi := vi) hk hkey g5 with ⟨_, h2, _, _, h5⟩ | ⟨j, p, e, _, h2, h3, h4, _, _, h7, _⟩
  · refine fin l0 ck ?_ g4 (fun N' Nf' w' hN hNf hb => ?_)
    · simp only [Builtin.delete_, ht0, List.getElem?_toArray, List.getElem?_cons_zero, List.getElem?_cons_succ, Sem.run_bind, run_underlying' hu, Result.andThen_ok, hv, hobj, run_checkKey hk hkey, h2, hset, Sem.run_pure]
    · rw [h5]; exact old N' Nf' w' hN hNf hb
  · refine fin (l0.eraseIdx j) ck ?_ (g4.erase j) (fun N' Nf' w' hN hNf hb => ?_)
    · have herase : l0.toArray.eraseIdxIfInBounds j = (l0.eraseIdx j).toArray := by
        apply Array.ext'; simp
      simp only [Builtin.delete_, ht0, List.getElem?_toArray, List.getElem?_cons_zero, List.getElem?_cons_succ, Sem.run_bind, run_underlying' hu, Result.andThen_ok, hv, hobj, run_checkKey hk hkey, h4, herase, hset, Sem.run_pure]
    · rw [h7]; exact (old N' Nf' w' hN hNf hb).eraseIdx j
end
end Go.Proofs.AM
