/- Loops over maps: the steps. -/
import Derived.Test.YtefekolpfklhdaaAmM3
import Derived.Maps.RangeRun
set_option maxRecDepth 2000
set_option linter.unusedVariables false
set_option linter.unusedSimpArgs false
namespace Go.Proofs.AM
open Go Go.RowKit
open Go.ChangeMaps (setBlock)

/-- An entry that comes out: what is left. -/
theorem filter_erase : ∀ (L : List MapEntry) (j : Nat) (e : MapEntry), (L.map (·.born)).Nodup → L[j]? = some e → L.filter (fun x => !(x.born == e.born)) = L.eraseIdx j
  | [], j, e, _, h => by simp at h
  | x :: L, 0, e, hn, h => by
    simp only [List.getElem?_cons_zero, Option.some.injEq] at h
    subst h
    simp only [List.eraseIdx_zero, List.tail_cons]
    rw [List.filter_cons_of_neg (by simp)]
    rw [List.filter_eq_self]
    intro y hy
    have hn : x.born ∉ L.map (·.born) := (List.nodup_cons.1 hn).1
    have : y.born ≠ x.born := fun e => hn (e ▸ List.mem_map_of_mem hy)
    simpa using this
  | x :: L, j + 1, e, hn, h => by
    simp only [List.getElem?_cons_succ] at h
    have hn' := (List.nodup_cons.1 hn)
    have hmem : e.born ∈ L.map (·.born) := List.mem_map_of_mem (List.mem_of_getElem? h)
    have : x.born ≠ e.born := fun ee => hn'.1 (by show x.born ∈ _; rw [ee]; exact hmem)
    rw [List.filter_cons_of_pos (by simpa using this), List.eraseIdx_cons_succ, filter_erase L j e hn'.2 h]

theorem filter_push (l : List MapEntry) (seen : Array Nat) (b : Nat) : (l.filter fun e => !(seen.push b).contains e.born) = (l.filter fun e => !seen.contains e.born).filter fun x => !(x.born == b) := by
  rw [List.filter_filter]
  congr 1
  funext e
  simp [Array.contains_push, Bool.and_comm]
  cases decide (e.born ∈ seen) <;> simp
  by_cases h : e.born = b <;> simp [h]

section
variable {P : Program} {C : Cx} {s : AS} {β : List Bl} {a : Act} {w : World}

/-- The next entry, whichever comes. -/
theorem Rel.walk_next (h : Rel C s β a w) {l m : Nat} {k v : Bool × K} {es left : List (k.2.den × v.2.den)} {cur : Option (k.2.den × v.2.den)} {fr f : Bool} (hl : s.heap[l]? = some (f, .walk m k v es left cur fr))
    {rr : Bl} (hr : β[l]? = some rr) (ty : TypeId) :
    (left = [] ∧ (Instr.next (.pointer (some ⟨rr.blk, 0, none⟩)) false ty).run P w = .ok (.tuple #[.bool false]) w) ∨
    ∃ (j : Nat) (p : k.2.den × v.2.den) (w' : World) (kv vv : Value), left[j]? = some p ∧ (Instr.next (.pointer (some ⟨rr.blk, 0, none⟩)) false ty).run P w = .ok (.tuple #[.bool true, kv, vv]) w' ∧
      Rel C { s with heap := s.heap.set l (true, .walk m k v es (left.eraseIdx j) (some p) fr) } β a w' ∧
      TV.R w' (C.N (s.heap.set l (true, .walk m k v es (left.eraseIdx j) (some p) fr)) β w') (C.fresh (s.heap.set l (true, .walk m k v es (left.eraseIdx j) (some p) fr)) β w') β
        (.tup [(false, [.dat .bool true true]), (k.1, k.2.cells fr p.1), (v.1, v.2.cells fr p.2)]) (.tuple #[.bool true, kv, vv]) := by
  obtain ⟨l0, ck, seen, rm, h1, h2, h3, h4, h5, h6, h7, h8, h9⟩ := h.ob l _ rr hl hr
  rcases run_next_at (P := P) w ty rr.blk rr.base ck ck seen l0.toArray ck h2 h1 (fun x hx => h6.lt x (by simpa using hx)) (Nat.le_refl _) with ⟨q1, q2⟩ | ⟨e, he, w1, hw1, hrun⟩
  · refine .inl ⟨?_, q2⟩
    have : (l0.filter fun e => !seen.contains e.born).length = 0 := by simpa [leftOf] using q1
    have := All2.len h8
    exact List.length_eq_zero_iff.1 (by omega)
  · right
    have he' : e ∈ l0.filter fun e => !seen.contains e.born := by simpa [leftOf] using he
    obtain ⟨j, hj⟩ := List.mem_iff_getElem?.1 he'
    have hjl := (List.getElem?_eq_some_iff.1 hj).1
    obtain ⟨p, hp⟩ : ∃ p, left[j]? = some p := ⟨_, List.getElem?_eq_getElem (by rw [All2.len h8]; exact hjl)⟩
    obtain ⟨e2, he2, hpe⟩ := h8.get hp
    rw [hj] at he2; cases he2
    have hlt : rr.blk < w.heap.size := (Array.getElem?_eq_some_iff.1 h2).1
    have fw : (setBlock w1 rr.blk (.mapIter (some rr.base) ck (seen.push e.born) ck)).os = w.os ∧ (setBlock w1 rr.blk (.mapIter (some rr.base) ck (seen.push e.born) ck)).tape = w.tape ∧ (setBlock w1 rr.blk (.mapIter (some rr.base) ck (seen.push e.born) ck)).output = w.output ∧
        (setBlock w1 rr.blk (.mapIter (some rr.base) ck (seen.push e.born) ck)).heap.size = w.heap.size ∧ (setBlock w1 rr.blk (.mapIter (some rr.base) ck (seen.push e.born) ck)).heap[rr.blk]? = some (.mapIter (some rr.base) ck (seen.push e.born) ck) ∧
        ∀ b, b ≠ rr.blk → (setBlock w1 rr.blk (.mapIter (some rr.base) ck (seen.push e.born) ck)).heap[b]? = w.heap[b]? := by
      have hh : w1.heap = w.heap ∧ w1.os = w.os ∧ w1.tape = w.tape ∧ w1.output = w.output := by rcases hw1 with rfl | rfl <;> exact ⟨rfl, rfl, rfl, rfl⟩
      refine ⟨hh.2.1, hh.2.2.1, hh.2.2.2, ?_, ?_, fun b hb => ?_⟩
      · simp [setBlock, hh.1]
      · simp [setBlock, hh.1, hlt]
      · simp only [setBlock, hh.1]; rw [Array.getElem?_setIfInBounds_ne (Ne.symm hb)]
    generalize setBlock w1 rr.blk (.mapIter (some rr.base) ck (seen.push e.born) ck) = w' at hrun fw
    obtain ⟨f1, f2, f3, f4, f5, f6⟩ := fw
    obtain ⟨hrel, mv⟩ := h.upd (w' := w') l _ (.walk m k v es (left.eraseIdx j) (some p) fr) rr hl hr f1 f2 f3 (by omega) (fun b _ hb => f6 b (fun e => hb (by simp [AObj.occ, e]))) (by simp) (fun b hb => hb)
      (fun mv hN hNf hbl => by
        have mono : ∀ (x : k.2.den × v.2.den) (y : MapEntry), entR w (if fr then C.fresh s.heap β w else C.N s.heap β w) k v x y → entR w' (if fr then C.fresh (s.heap.set l (true, .walk m k v es (left.eraseIdx j) (some p) fr)) β w' else C.N (s.heap.set l (true, .walk m k v es (left.eraseIdx j) (some p) fr)) β w') k v x y := by
          intro x y hxy
          cases fr
          · exact entR_mono hbl hN hxy
          · exact entR_mono (fun b hb => hbl b (Cx.fresh_N hb)) hNf hxy
        refine ⟨l0, ck, seen.push e.born, rm, by rw [f6 rr.base (Ne.symm h3)]; exact h1, f5, h3, h4, h5, h6, h7.mono mono, ?_, e, (List.mem_filter.1 he').1, by simp, mono _ _ hpe⟩
        rw [filter_push, filter_erase _ j e ?_ hj]
        · exact (h8.eraseIdx j).mono mono
        · exact (List.filter_sublist.map _).nodup h6.nd)
    refine ⟨j, p, w', e.key, e.val, hp, hrun, hrel, ?_⟩
    have hpe' : entR w' (if fr then C.fresh (s.heap.set l (true, .walk m k v es (left.eraseIdx j) (some p) fr)) β w' else C.N (s.heap.set l (true, .walk m k v es (left.eraseIdx j) (some p) fr)) β w') k v p e := by
      have hblN : ∀ b, C.N s.heap β w b → w'.heap[b]? = w.heap[b]? := fun b hb => f6 b (fun e => hb.2.2 l _ rr hl hr (by simp [AObj.occ, e]))
      have free : ∀ b, Free s.heap β b → Free (s.heap.set l (true, .walk m k v es (left.eraseIdx j) (some p) fr)) β b := fun b hf l1 o1 r1 e1 e2 hx => by
        by_cases hh : l = l1
        · subst hh
          simp only [List.getElem?_set_self (List.getElem?_eq_some_iff.1 hl).1, Option.some.injEq] at e1
          subst e1
          rw [hr] at e2; cases e2
          exact hf l _ rr hl hr hx
        · rw [List.getElem?_set_ne hh] at e1
          exact hf l1 o1 r1 e1 e2 hx
      cases fr
      · exact entR_mono hblN (fun b hb => ⟨hb.1, by rw [f4]; exact hb.2.1, free b hb.2.2⟩) hpe
      · exact entR_mono (fun b hb => hblN b (Cx.fresh_N hb)) (fun b hb => ⟨hb.1, by rw [f4]; exact hb.2.1, free b hb.2.2⟩) hpe
    exact ⟨[.bool true, e.key, e.val], rfl, rfl, K.cells_valR hpe'.1, K.cells_valR hpe'.2, trivial⟩

/-- The loop is over: the map is there again. -/
theorem Rel.walk_end (h : Rel C s β a w) {l m : Nat} {k v : Bool × K} {es left : List (k.2.den × v.2.den)} {cur : Option (k.2.den × v.2.den)} {fr f fm : Bool} (hl : s.heap[l]? = some (f, .walk m k v es left cur fr)) (hm : s.heap[m]? = some (fm, .dead)) (f1 f2 : Bool) :
    Rel C { s with heap := (s.heap.set l (f1, .dead)).set m (f2, .map k v es fr) } β a w := by
  have hne : l ≠ m := fun e => by subst e; rw [hl] at hm; simp at hm
  have hll := (List.getElem?_eq_some_iff.1 hl).1
  have hml := (List.getElem?_eq_some_iff.1 hm).1
  obtain ⟨rr, hr⟩ : ∃ r, β[l]? = some r := ⟨_, List.getElem?_eq_getElem (by rw [h.bsize]; exact hll)⟩
  obtain ⟨l0, ck, seen, rm, h1, h2, h3, h4, h5, h6, h7, h8, h9⟩ := h.ob l _ rr hl hr
  have getl : ((s.heap.set l (f1, .dead)).set m (f2, AObj.map k v es fr))[l]? = some (f1, .dead) := by
    rw [List.getElem?_set_ne (Ne.symm hne), List.getElem?_set_self hll]
  have getm : ((s.heap.set l (f1, .dead)).set m (f2, AObj.map k v es fr))[m]? = some (f2, .map k v es fr) := by
    rw [List.getElem?_set_self (by simpa using hml)]
  have geto : ∀ i, i ≠ l → i ≠ m → ((s.heap.set l (f1, .dead)).set m (f2, AObj.map k v es fr))[i]? = s.heap[i]? := fun i h1 h2 => by
    rw [List.getElem?_set_ne (Ne.symm h2), List.getElem?_set_ne (Ne.symm h1)]
  have new : ∀ i, s.heap.length ≤ i → ((s.heap.set l (f1, .dead)).set m (f2, AObj.map k v es fr))[i]? = none := fun i hi => by
    apply List.getElem?_eq_none; simpa using hi
  have := h.gen ((s.heap.set l (f1, .dead)).set m (f2, .map k v es fr)) [] w (fun x => x = l ∨ x = m) rfl rfl rfl (Nat.le_refl _) (by simp)
    (fun i o ho hn => ⟨o, by rw [geto i (fun e => hn (.inl e)) (fun e => hn (.inr e))]; exact ho, rfl⟩)
    (fun i _ hi => by
      rw [geto i (fun e => by subst e; rw [hl] at hi; simp at hi) (fun e => by subst e; rw [hm] at hi; simp at hi)]; exact hi)
    (fun b hb _ => rfl)
    (fun i o r b ho hr' hc hx => by
      rcases hc with (rfl | rfl) | hc
      · rw [getl] at ho; cases ho; simp [AObj.occ] at hx
      · rw [getm] at ho; cases ho
        simp only [List.append_nil] at hr'
        rw [h4] at hr'; cases hr'
        simp only [AObj.occ, List.mem_singleton] at hx
        have hb : b ∈ (AObj.walk i k v es left cur fr).occ rr := by simp [AObj.occ, hx, h5]
        exact ⟨(h.occ l _ rr b hl hr hb).1, .inr ⟨l, _, rr, hl, hr, .inl rfl, hb⟩⟩
      · rw [new i hc] at ho; simp at ho)
    (fun i i' o o' r r' b ho hr1 ho' hr2 hc hc' hx hx' => by
      have key : ∀ i o r, ((s.heap.set l (f1, .dead)).set m (f2, AObj.map k v es fr))[i]? = some o → ((i = l ∨ i = m) ∨ s.heap.length ≤ i) → b ∈ o.2.occ r → i = m := by
        intro i o r ho hc hx
        rcases hc with (rfl | rfl) | hc
        · rw [getl] at ho; cases ho; simp [AObj.occ] at hx
        · rfl
        · rw [new i hc] at ho; simp at ho
      rw [key i o r ho hc hx, key i' o' r' ho' hc' hx'])
    (fun i o r ho hr' hc mv hN hNf hbl => by
      rcases hc with (rfl | rfl) | hc
      · rw [getl] at ho; cases ho; trivial
      · rw [getm] at ho; cases ho
        simp only [List.append_nil] at *
        rw [h4] at hr'; cases hr'
        refine ⟨l0, ck, by rw [h5]; exact h1, h6, h7.mono fun x y hxy => ?_⟩
        cases fr
        · exact entR_mono (fun _ _ => rfl) hN hxy
        · exact entR_mono (fun _ _ => rfl) hNf hxy
      · rw [new i hc] at ho; simp at ho)
  simpa using this.1

/-- A loop over a map begins. -/
theorem Rel.walk_start (h : Rel C s β a w) {m : Nat} {k v : Bool × K} {es : List (k.2.den × v.2.den)} {fr f : Bool} (hm : s.heap[m]? = some (f, .map k v es fr)) {rm : Bl} (hr : β[m]? = some rm) :
    ∃ (ck : Nat) (l0 : List MapEntry), w.heap[rm.blk]? = some (.map l0.toArray ck) ∧
      Rel C { s with heap := s.heap.set m (true, .dead) ++ [(true, .walk m k v es es none fr)] } (β ++ [⟨w.heap.size, rm.blk, 0, 0, 0, true, none⟩]) a (w.alloc (.mapIter (some rm.blk) ck #[] ck)) := by
  have hml := (List.getElem?_eq_some_iff.1 hm).1
  obtain ⟨l0, ck, h1, h2, h3⟩ := h.ob m _ rm hm hr
  have hlt : rm.blk < w.heap.size := (Array.getElem?_eq_some_iff.1 h1).1
  refine ⟨ck, l0, h1, ?_⟩
  have hg := Grew.alloc w (.mapIter (some rm.blk) ck #[] ck)
  have hnew : (w.alloc (.mapIter (some rm.blk) ck #[] ck)).heap[w.heap.size]? = some (.mapIter (some rm.blk) ck #[] ck) := World.alloc_heap_new _ _
  have getm : (s.heap.set m (true, .dead) ++ [(true, AObj.walk m k v es es none fr)])[m]? = some (true, .dead) := by
    rw [List.getElem?_append_left (by simpa using hml), List.getElem?_set_self hml]
  have getn : (s.heap.set m (true, .dead) ++ [(true, AObj.walk m k v es es none fr)])[s.heap.length]? = some (true, .walk m k v es es none fr) := by
    rw [List.getElem?_append_right (by simp)]; simp
  have geto : ∀ i, i ≠ m → i < s.heap.length → (s.heap.set m (true, .dead) ++ [(true, AObj.walk m k v es es none fr)])[i]? = s.heap[i]? := fun i h1 h2 => by
    rw [List.getElem?_append_left (by simpa using h2), List.getElem?_set_ne (Ne.symm h1)]
  have only : ∀ i o, (s.heap.set m (true, .dead) ++ [(true, AObj.walk m k v es es none fr)])[i]? = some o → s.heap.length ≤ i → i = s.heap.length := fun i o ho hi => by
    have := (List.getElem?_eq_some_iff.1 ho).1; simp at this; omega
  have hβn : (β ++ [(⟨w.heap.size, rm.blk, 0, 0, 0, true, none⟩ : Bl)])[s.heap.length]? = some ⟨w.heap.size, rm.blk, 0, 0, 0, true, none⟩ := by rw [← h.bsize]; simp
  exact (h.gen (s.heap.set m (true, .dead) ++ [(true, .walk m k v es es none fr)]) [⟨w.heap.size, rm.blk, 0, 0, 0, true, none⟩] _ (fun x => x = m) hg.os hg.tape hg.output hg.size (by simp)
    (fun i o ho hn => ⟨o, by rw [geto i hn (List.getElem?_eq_some_iff.1 ho).1]; exact ho, rfl⟩)
    (fun i _ hi => by
      have hne : i ≠ m := fun e => by subst e; rw [hm] at hi; simp at hi
      rw [geto i hne (List.getElem?_eq_some_iff.1 hi).1]; exact hi)
    (fun b hb _ => hg.block b hb)
    (fun i o r b ho hr' hc hx => by
      rcases hc with rfl | hc
      · rw [getm] at ho; cases ho; simp [AObj.occ] at hx
      · have := only i o ho hc; subst this
        rw [getn] at ho; cases ho
        rw [hβn] at hr'; cases hr'
        simp only [AObj.occ, List.mem_cons, List.not_mem_nil, or_false] at hx
        rcases hx with rfl | rfl
        · exact ⟨by simp, .inl (Nat.le_refl _)⟩
        · exact ⟨by simp; omega, .inr ⟨m, _, rm, hm, hr, rfl, by simp [AObj.occ]⟩⟩)
    (fun i i' o o' r r' b ho hr1 ho' hr2 hc hc' hx hx' => by
      have key : ∀ i o r, (s.heap.set m (true, .dead) ++ [(true, AObj.walk m k v es es none fr)])[i]? = some o → (i = m ∨ s.heap.length ≤ i) → b ∈ o.2.occ r → i = s.heap.length := by
        intro i o r ho hc hx
        rcases hc with rfl | hc
        · rw [getm] at ho; cases ho; simp [AObj.occ] at hx
        · exact only i o ho hc
      rw [key i o r ho hc hx, key i' o' r' ho' hc' hx'])
    (fun i o r ho hr' hc mv hN hNf hbl => by
      rcases hc with rfl | hc
      · rw [getm] at ho; cases ho; trivial
      · have := only i o ho hc; subst this
        rw [getn] at ho; cases ho
        rw [hβn] at hr'; cases hr'
        have mono : All2 (entR (w.alloc (.mapIter (some rm.blk) ck #[] ck)) (if fr then C.fresh (s.heap.set m (true, .dead) ++ [(true, AObj.walk m k v es es none fr)]) (β ++ [⟨w.heap.size, rm.blk, 0, 0, 0, true, none⟩]) (w.alloc (.mapIter (some rm.blk) ck #[] ck)) else C.N (s.heap.set m (true, .dead) ++ [(true, AObj.walk m k v es es none fr)]) (β ++ [⟨w.heap.size, rm.blk, 0, 0, 0, true, none⟩]) (w.alloc (.mapIter (some rm.blk) ck #[] ck))) k v) es l0 := h3.mono fun x y hxy => by
          cases fr
          · exact entR_mono hbl hN hxy
          · exact entR_mono (fun b hb => hbl b (Cx.fresh_N hb)) hNf hxy
        refine ⟨l0, ck, #[], rm, (hg.block _ hlt).trans h1, hnew, by show w.heap.size ≠ rm.blk; omega, get_app hr, rfl, h2, mono, ?_, rfl⟩
        rw [List.filter_eq_self.2 (by simp)]
        exact mono)).1

variable {R : Type} {k : AS → Option R} {r : R} {F : Fence} {n : Nat} {Q : Exit → Act → World → Prop} {o : Oper}

theorem range_step (hF : FW F) (h : Rel C s β a w) {t : TypeId} {x : Operand} (ho : o.op = .range t x) (ee : arange P s o t (s.ev x) k = some r) :
    o.wpIn F n P a w (After C s β (fun i => o.dst = some i) k r) Q := by
  unfold arange at ee
  split at ee
  rotate_left
  · simp at ee
  rename_i kt vt m hu hx
  split at ee
  rotate_left
  · simp at ee
  rename_i ki vi es fr hob
  obtain ⟨rm, hr, hv⟩ := h.ev1 hx
  obtain ⟨f, hf⟩ := hat_eq hob (by simp)
  obtain ⟨ck, l0, h1, h2⟩ := h.walk_start hf hr
  have hrun : (execOp a.eval o).run P w = .ok (.value (.pointer (some ⟨w.heap.size, 0, none⟩))) (w.alloc (.mapIter (some rm.blk) ck #[] ck)) := by
    simp only [execOp, ho, Instr.range, Sem.run_bind, run_underlying' hu, Result.andThen_ok, hv]
    simp [getObj, Sem.run, Sem.run_bind, h1, Result.andThen, run_newObj_alloc]
  have hml := (List.getElem?_eq_some_iff.1 hf).1
  refine wpIn_value hF (by simp [ho]) hrun ⟨_, _, ee, h2.put _ _ _ ?_, ?_⟩
  · exact ⟨⟨w.heap.size, rm.blk, 0, 0, 0, true, none⟩, by rw [← h.bsize]; simp, rfl⟩
  · have hE : Ext (fun i => o.dst = some i) s { s with heap := s.heap.set m (true, .dead) ++ [(true, .walk m ki vi es es none fr)] } β (β ++ [⟨w.heap.size, rm.blk, 0, 0, 0, true, none⟩]) := by
      refine ⟨⟨_, rfl⟩, fun _ _ => rfl, rfl, by simp, fun l o hl ho => ?_, ⟨[], rfl⟩, fun l hl => ?_⟩
      · have ho : (s.heap.set m (true, AObj.dead) ++ [(true, AObj.walk m ki vi es es none fr)])[l]? = some (false, o) := ho
        rw [List.getElem?_append_left (by simpa using hl)] at ho
        by_cases e : m = l
        · subst e; rw [List.getElem?_set_self hml] at ho; simp at ho
        · rwa [List.getElem?_set_ne e] at ho
      · have hll := (List.getElem?_eq_some_iff.1 hl).1
        have e : m ≠ l := fun e => by subst e; rw [hf] at hl; simp at hl
        show (s.heap.set m (true, AObj.dead) ++ [(true, AObj.walk m ki vi es es none fr)])[l]? = _
        rw [List.getElem?_append_left (by simpa using hll), List.getElem?_set_ne e]; exact hl
    exact hE.trans (Ext.put _ _ _ _)

theorem aentry_sound (h : Rel C s β a w) {x : Operand} (ho : o.op = .entry x) {k : TV → Option R} (e : aentry s.heap (s.ev x) k = some r) :
    ∃ tv v, k tv = some r ∧ (execOp a.eval o).run P w = .ok (.value v) w ∧ tv.R w (C.N s.heap β w) (C.fresh s.heap β w) β v := by
  unfold aentry at e
  split at e
  rotate_left
  · simp at e
  rename_i l hx
  split at e
  rotate_left
  · simp at e
  rename_i m ki vi es left p fr hob
  obtain ⟨rr, hr, hv⟩ := h.ev1 hx
  obtain ⟨f, r0, g1, g2, l0, ck, seen, rm, h1, h2, h3, h4, h5, h6, h7, h8, h9⟩ := h.obj hob (by simp)
  rw [hr] at g2; cases g2
  obtain ⟨en, he, hs, hp⟩ := h9
  obtain ⟨sn, hsn⟩ : ∃ sn : Array Nat, seen = sn.push en.born := by
    have hb := hs
    rw [Array.back?_eq_some_iff] at hb
    obtain ⟨sn, rfl⟩ := hb
    exact ⟨sn, rfl⟩
  subst hsn
  have hrun := run_entry_at (P := P) w rr.blk rr.base ck sn l0.toArray ck en h2 h1 (by simpa using he) (by simpa using h6.nd)
  refine ⟨_, .tuple #[en.key, en.val], e, ?_, [en.key, en.val], rfl, K.cells_valR hp.1, K.cells_valR hp.2, trivial⟩
  simp only [execOp, ho, hv, Sem.run_bind, hrun, Result.andThen_ok, Sem.run_pure]
end
end Go.Proofs.AM
