/- A machine that reckons what a function of the program comes to, and that what it reckons is what the program does. No condition. -/
import Derived.Test.YtmengjdjjnhajaaAma
import Derived.Maps.RangeRun
import Derived.Lib.MakeNoZero
import Derived.Laws.Cover3
import Derived.OrdersIn
set_option maxRecDepth 2000
set_option linter.unusedVariables false
set_option linter.unusedSimpArgs false
section
/- Loops over maps: the steps. -/
namespace Go.Proofs.AM
open Go Go.RowKit
open Go.ChangeMaps (setBlock)

/-- An entry that comes out: what is left. -/
theorem filter_erase : ∀ (L : List MapEntry) (j : Nat) (e : MapEntry), (L.map (·.born)).Nodup → L[j]? = some e → L.filter (fun x => !(x.born == e.born)) = L.eraseIdx j
  | [], j, e, _, h => by simp at h
  | x :: L, 0, e, hn, h => by
    simp only [List.getElem?_cons_zero, Option.some.injEq] at h
    subst h
    simp only [List.eraseIdx_zero, List.tail_cons]
    rw [List.filter_cons_of_neg (by simp)]
    rw [List.filter_eq_self]
    intro y hy
    have hn : x.born ∉ L.map (·.born) := (List.nodup_cons.1 hn).1
    have : y.born ≠ x.born := fun e => hn (e ▸ List.mem_map_of_mem hy)
    simpa using this
  | x :: L, j + 1, e, hn, h => by
    simp only [List.getElem?_cons_succ] at h
    have hn' := (List.nodup_cons.1 hn)
    have hmem : e.born ∈ L.map (·.born) := List.mem_map_of_mem (List.mem_of_getElem? h)
    have : x.born ≠ e.born := fun ee => hn'.1 (by show x.born ∈ _; rw [ee]; exact hmem)
    rw [List.filter_cons_of_pos (by simpa using this), List.eraseIdx_cons_succ, filter_erase L j e hn'.2 h]

theorem filter_push (l : List MapEntry) (seen : Array Nat) (b : Nat) : (l.filter fun e => !(seen.push b).contains e.born) = (l.filter fun e => !seen.contains e.born).filter fun x => !(x.born == b) := by
  rw [List.filter_filter]
  congr 1
  funext e
  simp [Array.contains_push, Bool.and_comm]
  cases decide (e.born ∈ seen) <;> simp
  by_cases h : e.born = b <;> simp [h]

section
variable {P : Program} {C : Cx} {s : AS} {β : List Bl} {a : Act} {w : World}

/-- The next entry, whichever comes. -/
theorem Rel.walk_next (h : Rel C s β a w) {l m : Nat} {k v : Bool × K} {es left : List (k.2.den × v.2.den)} {cur : Option (k.2.den × v.2.den)} {fr f : Bool} (hl : s.heap[l]? = some (f, .walk m k v es left cur fr))
    {rr : Bl} (hr : β[l]? = some rr) (ty : TypeId) :
    (left = [] ∧ (Instr.next (.pointer (some ⟨rr.blk, 0, none⟩)) false ty).run P w = .ok (.tuple #[.bool false]) w) ∨
    ∃ (j : Nat) (p : k.2.den × v.2.den) (w' : World) (kv vv : Value), left[j]? = some p ∧ (Instr.next (.pointer (some ⟨rr.blk, 0, none⟩)) false ty).run P w = .ok (.tuple #[.bool true, kv, vv]) w' ∧
      Rel C { s with heap := s.heap.set l (true, .walk m k v es (left.eraseIdx j) (some p) fr) } β a w' ∧
      TV.R w' (C.N (s.heap.set l (true, .walk m k v es (left.eraseIdx j) (some p) fr)) β w') (C.fresh (s.heap.set l (true, .walk m k v es (left.eraseIdx j) (some p) fr)) β w') β
        (.tup [(false, [.dat .bool true true]), (k.1, k.2.cells fr p.1), (v.1, v.2.cells fr p.2)]) (.tuple #[.bool true, kv, vv]) := by
  obtain ⟨l0, ck, seen, rm, h1, h2, h3, h4, h5, h6, h7, h8, h9⟩ := h.ob l _ rr hl hr
  rcases run_next_at (P := P) w ty rr.blk rr.base ck ck seen l0.toArray ck h2 h1 (fun x hx => h6.lt x (by simpa using hx)) (Nat.le_refl _) with ⟨q1, q2⟩ | ⟨e, he, w1, hw1, hrun⟩
  · refine .inl ⟨?_, q2⟩
    have : (l0.filter fun e => !seen.contains e.born).length = 0 := by simpa [leftOf] using q1
    have := All2.len h8
    exact List.length_eq_zero_iff.1 (by omega)
  · right
    have he' : e ∈ l0.filter fun e => !seen.contains e.born := by simpa [leftOf] using he
    obtain ⟨j, hj⟩ := List.mem_iff_getElem?.1 he'
    have hjl := (List.getElem?_eq_some_iff.1 hj).1
    obtain ⟨p, hp⟩ : ∃ p, left[j]? = some p := ⟨_, List.getElem?_eq_getElem (by rw [All2.len h8]; exact hjl)⟩
    obtain ⟨e2, he2, hpe⟩ := h8.get hp
    rw [hj] at he2; cases he2
    have hlt : rr.blk < w.heap.size := (Array.getElem?_eq_some_iff.1 h2).1
    have fw : (setBlock w1 rr.blk (.mapIter (some rr.base) ck (seen.push e.born) ck)).os = w.os ∧ (setBlock w1 rr.blk (.mapIter (some rr.base) ck (seen.push e.born) ck)).tape = w.tape ∧ (setBlock w1 rr.blk (.mapIter (some rr.base) ck (seen.push e.born) ck)).output = w.output ∧
        (setBlock w1 rr.blk (.mapIter (some rr.base) ck (seen.push e.born) ck)).heap.size = w.heap.size ∧ (setBlock w1 rr.blk (.mapIter (some rr.base) ck (seen.push e.born) ck)).heap[rr.blk]? = some (.mapIter (some rr.base) ck (seen.push e.born) ck) ∧
        ∀ b, b ≠ rr.blk → (setBlock w1 rr.blk (.mapIter (some rr.base) ck (seen.push e.born) ck)).heap[b]? = w.heap[b]? := by
      have hh : w1.heap = w.heap ∧ w1.os = w.os ∧ w1.tape = w.tape ∧ w1.output = w.output := by rcases hw1 with rfl | rfl <;> exact ⟨rfl, rfl, rfl, rfl⟩
      refine ⟨hh.2.1, hh.2.2.1, hh.2.2.2, ?_, ?_, fun b hb => ?_⟩
      · simp [setBlock, hh.1]
      · simp [setBlock, hh.1, hlt]
      · simp only [setBlock, hh.1]; rw [Array.getElem?_setIfInBounds_ne (Ne.symm hb)]
    have fd : w.drawn ≤ (setBlock w1 rr.blk (.mapIter (some rr.base) ck (seen.push e.born) ck)).drawn := by rcases hw1 with rfl | rfl <;> first | exact Nat.le_refl _ | exact Nat.le_succ _
    generalize setBlock w1 rr.blk (.mapIter (some rr.base) ck (seen.push e.born) ck) = w' at hrun fw fd
    obtain ⟨f1, f2, f3, f4, f5, f6⟩ := fw
    obtain ⟨hrel, mv⟩ := h.upd (hdr := fd) (w' := w') l _ (.walk m k v es (left.eraseIdx j) (some p) fr) rr hl hr f1 f2 f3 (by omega) (fun b _ hb => f6 b (fun e => hb (by simp [AObj.occ, e]))) (by simp) (fun b hb => hb)
      (fun mv hN hNf hbl => by
        have mono : ∀ (x : k.2.den × v.2.den) (y : MapEntry), entR w (if fr then C.fresh s.heap β w else C.N s.heap β w) k v x y → entR w' (if fr then C.fresh (s.heap.set l (true, .walk m k v es (left.eraseIdx j) (some p) fr)) β w' else C.N (s.heap.set l (true, .walk m k v es (left.eraseIdx j) (some p) fr)) β w') k v x y := by
          intro x y hxy
          cases fr
          · exact entR_mono hbl hN hxy
          · exact entR_mono (fun b hb => hbl b (Cx.fresh_N hb)) hNf hxy
        refine ⟨l0, ck, seen.push e.born, rm, by rw [f6 rr.base (Ne.symm h3)]; exact h1, f5, h3, h4, h5, h6, h7.mono mono, ?_, e, (List.mem_filter.1 he').1, by simp, mono _ _ hpe⟩
        rw [filter_push, filter_erase _ j e ?_ hj]
        · exact (h8.eraseIdx j).mono mono
        · exact (List.filter_sublist.map _).nodup h6.nd)
    refine ⟨j, p, w', e.key, e.val, hp, hrun, hrel, ?_⟩
    have hpe' : entR w' (if fr then C.fresh (s.heap.set l (true, .walk m k v es (left.eraseIdx j) (some p) fr)) β w' else C.N (s.heap.set l (true, .walk m k v es (left.eraseIdx j) (some p) fr)) β w') k v p e := by
      have hblN : ∀ b, C.N s.heap β w b → w'.heap[b]? = w.heap[b]? := fun b hb => f6 b (fun e => hb.2.2 l _ rr hl hr (by simp [AObj.occ, e]))
      have free : ∀ b, Free s.heap β b → Free (s.heap.set l (true, .walk m k v es (left.eraseIdx j) (some p) fr)) β b := fun b hf l1 o1 r1 e1 e2 hx => by
        by_cases hh : l = l1
        · subst hh
          simp only [List.getElem?_set_self (List.getElem?_eq_some_iff.1 hl).1, Option.some.injEq] at e1
          subst e1
          rw [hr] at e2; cases e2
          exact hf l _ rr hl hr hx
        · rw [List.getElem?_set_ne hh] at e1
          exact hf l1 o1 r1 e1 e2 hx
      cases fr
      · exact entR_mono hblN (fun b hb => ⟨hb.1, by rw [f4]; exact hb.2.1, free b hb.2.2⟩) hpe
      · exact entR_mono (fun b hb => hblN b (Cx.fresh_N hb)) (fun b hb => ⟨hb.1, by rw [f4]; exact hb.2.1, free b hb.2.2⟩) hpe
    exact ⟨[.bool true, e.key, e.val], rfl, rfl, K.cells_valR hpe'.1, K.cells_valR hpe'.2, trivial⟩

/-- The loop is over: the map is there again. -/
theorem Rel.walk_end (h : Rel C s β a w) {l m : Nat} {k v : Bool × K} {es left : List (k.2.den × v.2.den)} {cur : Option (k.2.den × v.2.den)} {fr f fm : Bool} (hl : s.heap[l]? = some (f, .walk m k v es left cur fr)) (hm : s.heap[m]? = some (fm, .dead)) (f1 f2 : Bool) :
    Rel C { s with heap := (s.heap.set l (f1, .dead)).set m (f2, .map k v es fr) } β a w := by
  have hne : l ≠ m := fun e => by subst e; rw [hl] at hm; simp at hm
  have hll := (List.getElem?_eq_some_iff.1 hl).1
  have hml := (List.getElem?_eq_some_iff.1 hm).1
  obtain ⟨rr, hr⟩ : ∃ r, β[l]? = some r := ⟨_, List.getElem?_eq_getElem (by rw [h.bsize]; exact hll)⟩
  obtain ⟨l0, ck, seen, rm, h1, h2, h3, h4, h5, h6, h7, h8, h9⟩ := h.ob l _ rr hl hr
  have getl : ((s.heap.set l (f1, .dead)).set m (f2, AObj.map k v es fr))[l]? = some (f1, .dead) := by
    rw [List.getElem?_set_ne (Ne.symm hne), List.getElem?_set_self hll]
  have getm : ((s.heap.set l (f1, .dead)).set m (f2, AObj.map k v es fr))[m]? = some (f2, .map k v es fr) := by
    rw [List.getElem?_set_self (by simpa using hml)]
  have geto : ∀ i, i ≠ l → i ≠ m → ((s.heap.set l (f1, .dead)).set m (f2, AObj.map k v es fr))[i]? = s.heap[i]? := fun i h1 h2 => by
    rw [List.getElem?_set_ne (Ne.symm h2), List.getElem?_set_ne (Ne.symm h1)]
  have new : ∀ i, s.heap.length ≤ i → ((s.heap.set l (f1, .dead)).set m (f2, AObj.map k v es fr))[i]? = none := fun i hi => by
    apply List.getElem?_eq_none; simpa using hi
  have := h.gen ((s.heap.set l (f1, .dead)).set m (f2, .map k v es fr)) [] w (fun x => x = l ∨ x = m) rfl rfl rfl (Nat.le_refl _) (by simp)
    (fun i o ho hn => ⟨o, by rw [geto i (fun e => hn (.inl e)) (fun e => hn (.inr e))]; exact ho, rfl⟩)
    (fun i _ hi => by
      rw [geto i (fun e => by subst e; rw [hl] at hi; simp at hi) (fun e => by subst e; rw [hm] at hi; simp at hi)]; exact hi)
    (fun b hb _ => rfl)
    (fun i o r b ho hr' hc hx => by
      rcases hc with (rfl | rfl) | hc
      · rw [getl] at ho; cases ho; simp [AObj.occ] at hx
      · rw [getm] at ho; cases ho
        simp only [List.append_nil] at hr'
        rw [h4] at hr'; cases hr'
        simp only [AObj.occ, List.mem_singleton] at hx
        have hb : b ∈ (AObj.walk i k v es left cur fr).occ rr := by simp [AObj.occ, hx, h5]
        exact ⟨(h.occ l _ rr b hl hr hb).1, .inr ⟨l, _, rr, hl, hr, .inl rfl, hb⟩⟩
      · rw [new i hc] at ho; simp at ho)
    (fun i i' o o' r r' b ho hr1 ho' hr2 hc hc' hx hx' => by
      have key : ∀ i o r, ((s.heap.set l (f1, .dead)).set m (f2, AObj.map k v es fr))[i]? = some o → ((i = l ∨ i = m) ∨ s.heap.length ≤ i) → b ∈ o.2.occ r → i = m := by
        intro i o r ho hc hx
        rcases hc with (rfl | rfl) | hc
        · rw [getl] at ho; cases ho; simp [AObj.occ] at hx
        · rfl
        · rw [new i hc] at ho; simp at ho
      rw [key i o r ho hc hx, key i' o' r' ho' hc' hx'])
    (fun i o r ho hr' hc mv hN hNf hbl => by
      rcases hc with (rfl | rfl) | hc
      · rw [getl] at ho; cases ho; trivial
      · rw [getm] at ho; cases ho
        simp only [List.append_nil] at *
        rw [h4] at hr'; cases hr'
        refine ⟨l0, ck, by rw [h5]; exact h1, h6, h7.mono fun x y hxy => ?_⟩
        cases fr
        · exact entR_mono (fun _ _ => rfl) hN hxy
        · exact entR_mono (fun _ _ => rfl) hNf hxy
      · rw [new i hc] at ho; simp at ho)
  simpa using this.1

/-- A loop over a map begins. -/
theorem Rel.walk_start (h : Rel C s β a w) {m : Nat} {k v : Bool × K} {es : List (k.2.den × v.2.den)} {fr f : Bool} (hm : s.heap[m]? = some (f, .map k v es fr)) {rm : Bl} (hr : β[m]? = some rm) :
    ∃ (ck : Nat) (l0 : List MapEntry), w.heap[rm.blk]? = some (.map l0.toArray ck) ∧
      Rel C { s with heap := s.heap.set m (true, .dead) ++ [(true, .walk m k v es es none fr)] } (β ++ [⟨w.heap.size, rm.blk, 0, 0, 0, true, none⟩]) a (w.alloc (.mapIter (some rm.blk) ck #[] ck)) := by
  have hml := (List.getElem?_eq_some_iff.1 hm).1
  obtain ⟨l0, ck, h1, h2, h3⟩ := h.ob m _ rm hm hr
  have hlt : rm.blk < w.heap.size := (Array.getElem?_eq_some_iff.1 h1).1
  refine ⟨ck, l0, h1, ?_⟩
  have hg := Grew.alloc w (.mapIter (some rm.blk) ck #[] ck)
  have hnew : (w.alloc (.mapIter (some rm.blk) ck #[] ck)).heap[w.heap.size]? = some (.mapIter (some rm.blk) ck #[] ck) := World.alloc_heap_new _ _
  have getm : (s.heap.set m (true, .dead) ++ [(true, AObj.walk m k v es es none fr)])[m]? = some (true, .dead) := by
    rw [List.getElem?_append_left (by simpa using hml), List.getElem?_set_self hml]
  have getn : (s.heap.set m (true, .dead) ++ [(true, AObj.walk m k v es es none fr)])[s.heap.length]? = some (true, .walk m k v es es none fr) := by
    rw [List.getElem?_append_right (by simp)]; simp
  have geto : ∀ i, i ≠ m → i < s.heap.length → (s.heap.set m (true, .dead) ++ [(true, AObj.walk m k v es es none fr)])[i]? = s.heap[i]? := fun i h1 h2 => by
    rw [List.getElem?_append_left (by simpa using h2), List.getElem?_set_ne (Ne.symm h1)]
  have only : ∀ i o, (s.heap.set m (true, .dead) ++ [(true, AObj.walk m k v es es none fr)])[i]? = some o → s.heap.length ≤ i → i = s.heap.length := fun i o ho hi => by
    have := (List.getElem?_eq_some_iff.1 ho).1; simp at this; omega
  have hβn : (β ++ [(⟨w.heap.size, rm.blk, 0, 0, 0, true, none⟩ : Bl)])[s.heap.length]? = some ⟨w.heap.size, rm.blk, 0, 0, 0, true, none⟩ := by rw [← h.bsize]; simp
  exact (h.gen (s.heap.set m (true, .dead) ++ [(true, .walk m k v es es none fr)]) [⟨w.heap.size, rm.blk, 0, 0, 0, true, none⟩] _ (fun x => x = m) hg.os hg.tape hg.output hg.size (by simp)
    (fun i o ho hn => ⟨o, by rw [geto i hn (List.getElem?_eq_some_iff.1 ho).1]; exact ho, rfl⟩)
    (fun i _ hi => by
      have hne : i ≠ m := fun e => by subst e; rw [hm] at hi; simp at hi
      rw [geto i hne (List.getElem?_eq_some_iff.1 hi).1]; exact hi)
    (fun b hb _ => hg.block b hb)
    (fun i o r b ho hr' hc hx => by
      rcases hc with rfl | hc
      · rw [getm] at ho; cases ho; simp [AObj.occ] at hx
      · have := only i o ho hc; subst this
        rw [getn] at ho; cases ho
        rw [hβn] at hr'; cases hr'
        simp only [AObj.occ, List.mem_cons, List.not_mem_nil, or_false] at hx
        rcases hx with rfl | rfl
        · exact ⟨by simp, .inl (Nat.le_refl _)⟩
        · exact ⟨by simp; omega, .inr ⟨m, _, rm, hm, hr, rfl, by simp [AObj.occ]⟩⟩)
    (fun i i' o o' r r' b ho hr1 ho' hr2 hc hc' hx hx' => by
      have key : ∀ i o r, (s.heap.set m (true, .dead) ++ [(true, AObj.walk m k v es es none fr)])[i]? = some o → (i = m ∨ s.heap.length ≤ i) → b ∈ o.2.occ r → i = s.heap.length := by
        intro i o r ho hc hx
        rcases hc with rfl | hc
        · rw [getm] at ho; cases ho; simp [AObj.occ] at hx
        · exact only i o ho hc
      rw [key i o r ho hc hx, key i' o' r' ho' hc' hx'])
    (fun i o r ho hr' hc mv hN hNf hbl => by
      rcases hc with rfl | hc
      · rw [getm] at ho; cases ho; trivial
      · have := only i o ho hc; subst this
        rw [getn] at ho; cases ho
        rw [hβn] at hr'; cases hr'
        have mono : All2 (entR (w.alloc (.mapIter (some rm.blk) ck #[] ck)) (if fr then C.fresh (s.heap.set m (true, .dead) ++ [(true, AObj.walk m k v es es none fr)]) (β ++ [⟨w.heap.size, rm.blk, 0, 0, 0, true, none⟩]) (w.alloc (.mapIter (some rm.blk) ck #[] ck)) else C.N (s.heap.set m (true, .dead) ++ [(true, AObj.walk m k v es es none fr)]) (β ++ [⟨w.heap.size, rm.blk, 0, 0, 0, true, none⟩]) (w.alloc (.mapIter (some rm.blk) ck #[] ck))) k v) es l0 := h3.mono fun x y hxy => by
          cases fr
          · exact entR_mono hbl hN hxy
          · exact entR_mono (fun b hb => hbl b (Cx.fresh_N hb)) hNf hxy
        refine ⟨l0, ck, #[], rm, (hg.block _ hlt).trans h1, hnew, by show w.heap.size ≠ rm.blk; omega, get_app hr, rfl, h2, mono, ?_, rfl⟩
        rw [List.filter_eq_self.2 (by simp)]
        exact mono)).1

variable {R : Type} {k : AS → Option R} {r : R} {F : Fence} {n : Nat} {Q : Exit → Act → World → Prop} {o : Oper}

theorem range_step (hF : FW F) (h : Rel C s β a w) {t : TypeId} {x : Operand} (ho : o.op = .range t x) (ee : arange P s o t (s.ev x) k = some r) :
    o.wpIn F n P a w (After C s β (fun i => o.dst = some i) k r) Q := by
  unfold arange at ee
  split at ee
  rotate_left
  · simp at ee
  rename_i kt vt m hu hx
  split at ee
  rotate_left
  · simp at ee
  rename_i ki vi es fr hob
  obtain ⟨rm, hr, hv⟩ := h.ev1 hx
  obtain ⟨f, hf⟩ := hat_eq hob (by simp)
  obtain ⟨ck, l0, h1, h2⟩ := h.walk_start hf hr
  have hrun : (execOp a.eval o).run P w = .ok (.value (.pointer (some ⟨w.heap.size, 0, none⟩))) (w.alloc (.mapIter (some rm.blk) ck #[] ck)) := by
    simp only [execOp, ho, Instr.range, Sem.run_bind, run_underlying' hu, Result.andThen_ok, hv]
    simp [getObj, Sem.run, Sem.run_bind, h1, Result.andThen, run_newObj_alloc]
  have hml := (List.getElem?_eq_some_iff.1 hf).1
  refine wpIn_value hF (by simp [ho]) hrun ⟨_, _, ee, h2.put _ _ _ ?_, ?_⟩
  · exact ⟨⟨w.heap.size, rm.blk, 0, 0, 0, true, none⟩, by rw [← h.bsize]; simp, rfl⟩
  · have hE : Ext (fun i => o.dst = some i) s { s with heap := s.heap.set m (true, .dead) ++ [(true, .walk m ki vi es es none fr)] } β (β ++ [⟨w.heap.size, rm.blk, 0, 0, 0, true, none⟩]) := by
      refine ⟨⟨_, rfl⟩, fun _ _ => rfl, rfl, by simp, fun l o hl ho => ?_, ⟨[], rfl⟩, fun l hl => ?_⟩
      · have ho : (s.heap.set m (true, AObj.dead) ++ [(true, AObj.walk m ki vi es es none fr)])[l]? = some (false, o) := ho
        rw [List.getElem?_append_left (by simpa using hl)] at ho
        by_cases e : m = l
        · subst e; rw [List.getElem?_set_self hml] at ho; simp at ho
        · rwa [List.getElem?_set_ne e] at ho
      · have hll := (List.getElem?_eq_some_iff.1 hl).1
        have e : m ≠ l := fun e => by subst e; rw [hf] at hl; simp at hl
        show (s.heap.set m (true, AObj.dead) ++ [(true, AObj.walk m ki vi es es none fr)])[l]? = _
        rw [List.getElem?_append_left (by simpa using hll), List.getElem?_set_ne e]; exact hl
    exact hE.trans (Ext.put _ _ _ _)

theorem aentry_sound (h : Rel C s β a w) {x : Operand} (ho : o.op = .entry x) {k : TV → Option R} (e : aentry s.heap (s.ev x) k = some r) :
    ∃ tv v, k tv = some r ∧ (execOp a.eval o).run P w = .ok (.value v) w ∧ tv.R w (C.N s.heap β w) (C.fresh s.heap β w) β v := by
  unfold aentry at e
  split at e
  rotate_left
  · simp at e
  rename_i l hx
  split at e
  rotate_left
  · simp at e
  rename_i m ki vi es left p fr hob
  obtain ⟨rr, hr, hv⟩ := h.ev1 hx
  obtain ⟨f, r0, g1, g2, l0, ck, seen, rm, h1, h2, h3, h4, h5, h6, h7, h8, h9⟩ := h.obj hob (by simp)
  rw [hr] at g2; cases g2
  obtain ⟨en, he, hs, hp⟩ := h9
  obtain ⟨sn, hsn⟩ : ∃ sn : Array Nat, seen = sn.push en.born := by
    have hb := hs
    rw [Array.back?_eq_some_iff] at hb
    obtain ⟨sn, rfl⟩ := hb
    exact ⟨sn, rfl⟩
  subst hsn
  have hrun := run_entry_at (P := P) w rr.blk rr.base ck sn l0.toArray ck en h2 h1 (by simpa using he) (by simpa using h6.nd)
  refine ⟨_, .tuple #[en.key, en.val], e, ?_, [en.key, en.val], rfl, K.cells_valR hp.1, K.cells_valR hp.2, trivial⟩
  simp only [execOp, ho, hv, Sem.run_bind, hrun, Result.andThen_ok, Sem.run_pure]
end
end Go.Proofs.AM
end

section
/- Makes, written-out slices, copies; all steps. -/
namespace Go.Proofs.AM
open Go Go.RowKit

section
variable {P : Program} {C : Cx} {s : AS} {β : List Bl} {a : Act} {w : World} {R : Type} {k : AS → Option R} {r : R} {F : Fence} {n : Nat} {Q : Exit → Act → World → Prop} {o : Oper}

/-- A new row of cells that the call owns. -/
theorem vec_step (hF : FW F) (h : Rel C s β a w) (hd : ∀ c, o.op ≠ .defer c) {e : TypeId} {q : K} {xs : List q.den} {fr : Bool} {mid post : List Value} {cap : Nat}
    (hr : (execOp a.eval o).run P w = .ok (.value (.slice (some ⟨w.heap.size, 0, none⟩) xs.length cap)) (w.alloc (.cells (mid ++ post).toArray e)))
    (hrow : rows (q.rd w (if fr then C.fresh s.heap β w else C.N s.heap β w)) xs mid) (hcap : mid.length + post.length = cap * q.size) (hle : xs.length ≤ cap)
    {im : Bool} (ee : k (s.made im o.dst e q xs fr) = some r) : o.wpIn F n P a w (After C s β (fun i => o.dst = some i) k r) Q := by
  have hnew : (w.alloc (.cells (mid ++ post).toArray e)).heap[w.heap.size]? = some (.cells (mid ++ post).toArray e) := heap_alloc_new w _
  obtain ⟨h2, mv⟩ := h.push (Grew.alloc w (.cells (mid ++ post).toArray e)) (.vec e q xs fr) ⟨w.heap.size, 0, q.size, xs.length, cap, true, none⟩ (fun b hb => by simp only [AObj.occ, if_true, List.mem_singleton] at hb; subst hb; simp)
    (fun mv hN hNf => by
      refine ⟨rfl, rfl, hle, ?_⟩
      simp only [if_true]
      refine ⟨[], mid, post, by rw [hnew]; simp, rfl, ?_, hcap⟩
      refine rows_weak (fun b hb => ?_) (fun b hb => ?_) hrow
      · refine (Grew.alloc w _).block b ?_
        cases fr
        · exact hb.2.1
        · exact hb.2.1
      · cases fr
        · exact hN b hb
        · exact hNf b hb)
  cases im with
  | false =>
    refine wpIn_value hF hd hr ⟨_, _, ee, h2.put _ _ _ ?_, (Ext.push _ s β _ _).trans (Ext.put _ _ _ _)⟩
    exact ⟨⟨w.heap.size, 0, q.size, xs.length, cap, true, none⟩, _, cap, by rw [← h.bsize]; simp, rfl, hle, .inl ⟨rfl, by simp [Bl.addr], by simp⟩⟩
  | true =>
    obtain ⟨h3, mv3⟩ := h.grew (Grew.alloc w (.cells (mid ++ post).toArray e))
    have hfresh : C.fresh s.heap β (w.alloc (.cells (mid ++ post).toArray e)) w.heap.size := ⟨h.keep.size, by simp, fun l o' rr e1 e2 hx => by
      have := (h.occ l o' rr _ e1 e2 hx).1; omega⟩
    have hN : ∀ b, C.N s.heap β w b → C.N s.heap β (w.alloc (.cells (mid ++ post).toArray e)) b := fun b hb => ⟨hb.1, by have := hb.2.1; simp; omega, hb.2.2⟩
    have hNf : ∀ b, C.fresh s.heap β w b → C.fresh s.heap β (w.alloc (.cells (mid ++ post).toArray e)) b := fun b hb => ⟨hb.1, by have := hb.2.1; simp; omega, hb.2.2⟩
    refine wpIn_value hF hd hr ⟨_, _, ee, h3.put _ _ _ ?_, Ext.put _ _ _ _⟩
    refine ⟨_, cap, rfl, hle, .inr ⟨w.heap.size, 0, mid, rfl, ?_, ?_, ?_⟩⟩
    · cases fr
      · exact Cx.fresh_N hfresh
      · exact hfresh
    · exact cellsAt_block (pre := []) (by simpa using hnew)
    · refine rows_weak (fun b hb => ?_) (fun b hb => ?_) hrow
      · refine (Grew.alloc w _).block b ?_
        cases fr
        · exact hb.2.1
        · exact hb.2.1
      · cases fr
        · exact hN b hb
        · exact hNf b hb

theorem rows_replicate {α : Type} {Q : α → List Value → Prop} {x : α} {c : List Value} (hx : Q x c) : ∀ n, rows Q (List.replicate n x) (List.replicate n c).flatten
  | 0 => rfl
  | n + 1 => ⟨c, (List.replicate n c).flatten, by simp [List.replicate_succ], hx, rows_replicate hx n⟩

theorem madeCells_rows (z : List Value) (hz : 0 < z.length) : ∀ n, (madeCells z.toArray (n * z.length)).toList = (List.replicate n z).flatten
  | 0 => by simp [madeCells]
  | n + 1 => by
    have ih := madeCells_rows z hz n
    rw [List.replicate_succ', List.flatten_append, ← ih]
    simp only [madeCells, Array.toList_map, Array.toList_range, List.flatten_cons, List.flatten_nil, List.append_nil]
    rw [Nat.add_mul, Nat.one_mul, List.range_add, List.map_append]
    congr 1
    apply List.ext_getElem
    · simp
    · intro i h1 h2
      have hi : i < z.length := by simpa using h1
      have e : (n * z.length + i) % z.length = i := by rw [Nat.mul_comm, Nat.mul_add_mod]; exact Nat.mod_eq_of_lt hi
      simp [e, hi]

theorem azero_R {e : TypeId} {z : List AV} (hz : azero P e = some z) : ∃ i zv, P.info? e = some i ∧ i.zero = some zv ∧ z.length = zv.cells.size ∧ All2 (AV.R w (C.N s.heap β w) (C.fresh s.heap β w) β) z zv.cells.toList := by
  obtain ⟨i, zv, hi, hzv, rfl⟩ := azero_some hz
  refine ⟨i, zv, hi, hzv, constTV_len zv, ?_⟩
  unfold constTV
  split
  · rename_i cs; simpa [TV.cells, Value.cells] using All2_const cs.toList
  · rename_i hne
    have hvc : zv.cells = #[zv] := by
      unfold Value.cells
      split
      · exact absurd rfl (hne _)
      · rfl
    rw [hvc]; exact ⟨constAV_R _, trivial⟩

theorem make_step (hF : FW F) (h : Rel C s β a w) {t : TypeId} {x y : Operand} (ho : o.op = .makeSlice t x y) {im : Bool} (ee : amake P s im o t x y k = some r) :
    o.wpIn F n P a w (After C s β (fun i => o.dst = some i) k r) Q := by
  unfold amake at ee
  split at ee
  rotate_left
  · simp at ee
  rename_i e m f1 u f2 ht hx hy
  split at ee
  rotate_left
  · simp at ee
  rename_i i q z hi hq hz
  split at ee
  rotate_left
  · simp at ee
  rename_i zd hzd
  split at ee
  rotate_left
  · simp at ee
  rename_i hs
  obtain ⟨h0, e1⟩ := gd_some ee; clear ee
  obtain ⟨h1, e2⟩ := gd_some e1; clear e1
  obtain ⟨h2, ee⟩ := gd_some e2; clear e2
  obtain ⟨m', rfl⟩ : ∃ m' : Int, m' = m := ⟨m, rfl⟩
  obtain ⟨u', rfl⟩ : ∃ u' : Int, u' = u := ⟨u, rfl⟩
  have h0 : (0 : Int) ≤ m' := h0
  have h1 : m' ≤ u' := h1
  have h2 : u' * (i.bytes : Int) ≤ 140737488355328 := h2
  obtain ⟨i', zv, hi', hzv, hzl, hzR⟩ := azero_R (C := C) (s := s) (β := β) (w := w) hz
  rw [hi] at hi'; cases hi'
  have hzr := of_sound h hzR hzd
  have hzlen := K.rd_len w _ q _ _ hzr
  have hu : u' ≤ u' * i.bytes := by
    have := Int.mul_le_mul_of_nonneg_left (show (1 : Int) ≤ i.bytes by omega) (show (0 : Int) ≤ u' by omega)
    simpa using this
  have hrun := run_make (P := P) w t e i zv (aelem_some ht) hi hzv   .i64 .i64 m' u' h0 h1 (by rw [Int.mul_comm]; omega) (by omega)
  have hcells : (madeCells zv.cells (u'.toNat * i.size)).toList = (List.replicate m'.toNat zv.cells.toList).flatten ++ (List.replicate (u'.toNat - m'.toNat) zv.cells.toList).flatten := by
    have := madeCells_rows zv.cells.toList (by omega) u'.toNat
    rw [← hzlen] at hs
    rw [hs.1]
    simp only [Array.toArray_toList] at this
    rw [this, ← List.flatten_append, List.replicate_append_replicate]
    congr 2; omega
  have hmk : madeCells zv.cells (u'.toNat * i.size) = ((List.replicate m'.toNat zv.cells.toList).flatten ++ (List.replicate (u'.toNat - m'.toNat) zv.cells.toList).flatten).toArray := by
    apply Array.ext'; rw [hcells]
  have len : ∀ j, ((List.replicate j zv.cells.toList).flatten).length = j * q.size := fun j => by
    simp [List.length_flatten, ← hzlen]
  refine vec_step hF h (by simp [ho]) (e := e) (q := q) (xs := List.replicate m'.toNat zd) (fr := true) (mid := (List.replicate m'.toNat zv.cells.toList).flatten) (post := (List.replicate (u'.toNat - m'.toNat) zv.cells.toList).flatten) (cap := u'.toNat) ?_ ?_ ?_ ?_ ee
  · rw [hmk] at hrun
    simp only [execOp, ho, h.evInt hx, h.evInt hy, Sem.run_bind, hrun, Result.andThen_ok, Sem.run_pure, List.length_replicate]
  · exact rows_replicate hzr _
  · rw [len, len, ← Nat.add_mul]; congr 1; omega
  · simp; omega

theorem aelems_sound (h : Rel C s β a w) {q : K} : ∀ {ps : List (Nat × Operand)} {j : Nat} {xs : List q.den} {f : Bool}, aelems s.heap q j (ps.map fun p => (p.1, s.ev p.2)) = some (xs, f) →
    ∃ news, rows (q.rd w (if f then C.fresh s.heap β w else C.N s.heap β w)) xs news ∧ xs.length = ps.length ∧ news.length = ps.length * q.size ∧
      ∀ (pre : List Value) (cells : Array Value), pre.length = j * q.size → cells.toList.take (j * q.size) = pre → cells.size = (j + ps.length) * q.size →
        Instr.fill (fun i => some (i * q.size, q.size)) cells (ps.map fun p => (p.1, a.eval p.2)) = some (pre ++ news).toArray
  | [], j, xs, f, e => by
    simp [aelems] at e
    obtain ⟨rfl, rfl⟩ := e
    refine ⟨[], rfl, rfl, by simp, fun pre cells h1 h2 h3 => ?_⟩
    simp only [List.map_nil, Instr.fill, Option.some.injEq, List.append_nil]
    apply Array.ext'
    rw [← h2, List.take_of_length_le (by simp at h3 ⊢; omega)]
  | p :: ps, j, xs, f, e => by
    simp only [List.map_cons] at e
    unfold aelems at e
    split at e
    rotate_left
    · simp at e
    rename_i hc
    obtain ⟨rfl, hsol, hlen⟩ := hc
    split at e
    rotate_left
    · simp at e
    rename_i x1 f1 xs1 g1 hx1 hxs
    simp only [Option.some.injEq, Prod.mk.injEq] at e
    obtain ⟨rfl, rfl⟩ := e
    obtain ⟨news, hr, hl1, hl2, hfill⟩ := aelems_sound h hxs
    have hcl := TV.R_cells (h.ev p.2) hsol
    have hx := of_sound h hcl hx1
    have hvl := hcl.len
    simp only [Array.length_toList] at hvl
    refine ⟨(a.eval p.2).cells.toList ++ news, ⟨_, news, rfl, ?_, ?_⟩, by simp [hl1], ?_, ?_⟩
    · refine K.rd_mono (fun _ _ => rfl) (fun b hb => ?_) _ _ _ hx
      cases f1 <;> cases g1 <;> first | exact hb | exact Cx.fresh_N hb
    · exact rows_weak (fun _ _ => rfl) (fun b hb => fl_weak hb (by simp)) hr
    · simp [hl2, ← hvl, hlen, Nat.add_mul]; omega
    · intro pre cells h1 h2 h3
      simp only [List.map_cons]
      unfold Instr.fill
      simp only [List.length_cons] at h3
      have hfit : p.1 * q.size + (a.eval p.2).cells.size ≤ cells.size := by rw [h3, ← hvl, hlen, Nat.add_mul, Nat.add_mul]; omega
      show (if _ then none else _) = _
      rw [if_neg (by simp only [ne_eq, Bool.or_eq_true, decide_eq_true_eq, not_or]; omega)]
      have hf := fill_step cells (a.eval p.2).cells (p.1 * q.size) hfit
      have := hfill (pre ++ (a.eval p.2).cells.toList) (cells.toList.take (p.1 * q.size) ++ (a.eval p.2).cells.toList ++ cells.toList.drop (p.1 * q.size + (a.eval p.2).cells.size)).toArray
        (by simp [h1, ← hvl, hlen, Nat.add_mul]) (by
          rw [h2]
          simp only [List.append_assoc]
          rw [← List.append_assoc, List.take_left' (by simp [h1, ← hvl, hlen, Nat.add_mul])])
        (by simp [h3, ← hvl, hlen, Nat.add_mul]; omega)
      rw [← List.append_assoc, ← this]
      congr 1

theorem buildSlice_step (hF : FW F) (h : Rel C s β a w) {t : TypeId} {m : Nat} {parts : Array (Nat × Operand)} (ho : o.op = .buildSlice t m parts) {im : Bool} (ee : abuildSlice P s im o t m parts.toList k = some r) :
    o.wpIn F n P a w (After C s β (fun i => o.dst = some i) k r) Q := by
  unfold abuildSlice at ee
  split at ee
  · simp at ee
  rename_i e ht
  split at ee
  rotate_left
  · simp at ee
  rename_i i q z hi hq hz
  split at ee
  rotate_left
  · simp at ee
  rename_i hs
  obtain ⟨hs1, hs2, hs3, hs4⟩ := hs
  split at ee
  rotate_left
  · simp at ee
  rename_i xs f hx
  obtain ⟨i', zv, hi', hzv, hzl, hzR⟩ := azero_R (C := C) (s := s) (β := β) (w := w) hz
  rw [hi] at hi'; cases hi'
  obtain ⟨news, hr, hl1, hl2, hfill⟩ := aelems_sound h hx
  have hcellsize : ∀ (cs : Array Value), ((Array.range (m * i.size)).map (cs[· % cs.size]!)).size = m * i.size := fun cs => by simp
  have hrun : (Instr.buildSlice t m (parts.map fun (x : Nat × Operand) => (x.1, a.eval x.2))).run P w = .ok (.slice (some ⟨w.heap.size, 0, none⟩) m m) (w.alloc (.cells news.toArray e)) := by
    unfold Instr.buildSlice
    simp only [Sem.run_bind, run_underlying' (aelem_some ht), Result.andThen_ok, run_sizeOf hi]
    rw [if_neg (by omega)]
    by_cases hm0 : m * i.size = 0
    · rw [if_pos hm0]
      rw [hs1] at hm0
      have := hfill [] #[] (by simp) (by simp) (by rw [hs3]; simpa using hm0.symm)
      simp only [List.nil_append] at this
      have he : ∀ g : Nat → Value, Array.map g (Array.range 0) = #[] := fun g => by apply Array.ext'; simp
      simp [hs1, hm0, this, newRow, he]
    · rw [if_neg hm0]
      simp only [Sem.run_bind, zeroValue, typeInfo, run_program, Result.andThen_ok, hi, Sem.run_pure, hzv]
      have := hfill [] ((Array.range (m * i.size)).map (zv.cells[· % zv.cells.size]!)) (by simp) (by simp) (by rw [hcellsize, ← hs3, hs1]; simp)
      simp only [List.nil_append] at this
      rw [hs1] at this ⊢
      simp only [Array.toList_map, this]
      simp [newRow]
  refine vec_step hF h (by simp [ho]) (e := e) (q := q) (xs := xs) (fr := f) (mid := news) (post := []) (cap := m) ?_ hr ?_ ?_ ee
  · simp only [execOp, ho, Sem.run_bind, hrun, Result.andThen_ok, Sem.run_pure, hl1, List.length_map, List.append_nil]
    rw [show parts.toList.length = m from hs3]
  · simp [hl2, hs3]
  · rw [hl1, ← hs3]; omega

/-- Some elements of an owned row are written over. -/
theorem over_step (h : Rel C s β a w) {l : Nat} {f : Bool} {T : TypeId} {q : K} {xs : List q.den} {fr fr2 : Bool} {rr : Bl} (hf : s.heap[l]? = some (f, .vec T q xs fr)) (hr : β[l]? = some rr) (hreal : rr.real = true)
    {off : Nat} {ys : List q.den} {news : List Value} (hle : off + ys.length ≤ xs.length) (hrn : rows (q.rd w (if fr2 then C.fresh s.heap β w else C.N s.heap β w)) ys news) :
    ∃ w', (storeCells ⟨rr.blk, rr.base + off * q.size, none⟩ news).run P w = .ok () w' ∧ Rel C (s.upd l (.vec T q (xs.take off ++ ys ++ xs.drop (off + ys.length)) (fr && fr2))) β a w' := by
  obtain ⟨g1, g2, g3, g4⟩ := h.ob l _ rr hf hr
  simp only [hreal, if_true] at g4
  obtain ⟨pre, mid, post, hh, hp, hrow, hcap⟩ := g4
  have hsplit : xs = xs.take off ++ ((xs.drop off).take ys.length ++ (xs.drop off).drop ys.length) := by rw [List.take_append_drop, List.take_append_drop]
  have hrow' := hrow
  rw [hsplit] at hrow'
  obtain ⟨m1, m2, rfl, r1, r2⟩ := rows.of_app hrow'
  obtain ⟨m3, m4, rfl, r3, r4⟩ := rows.of_app r2
  have e1 := rows.len (fun x c => K.rd_len w _ q x c) r1
  have e3 := rows.len (fun x c => K.rd_len w _ q x c) r3
  have en := rows.len (fun x c => K.rd_len w _ q x c) hrn
  have e1' : m1.length = off * q.size := by rw [e1]; congr 1; simp; omega
  have e3' : m3.length = news.length := by rw [e3, en]; congr 1; simp; omega
  have hst := run_store_block (P := P) (w := w) (b := rr.blk) (o := rr.base + off * q.size) (T := T) (pre := pre ++ m1) (old := m3) (post := m4 ++ post) (news := news)
    (by rw [hh]; simp) (by simp [hp, e1']) e3' (rows.one hrn)
  obtain ⟨f1, f2, f3, f4, f5⟩ := setRow_facts w rr.blk (pre ++ m1 ++ news ++ (m4 ++ post)).toArray
  have hrows : ∀ (w' : World) (M' : Nat → Prop), (∀ b, (if (fr && fr2) = true then C.fresh s.heap β w else C.N s.heap β w) b → w'.heap[b]? = w.heap[b]?) →
      (∀ b, (if (fr && fr2) = true then C.fresh s.heap β w else C.N s.heap β w) b → M' b) → rows (q.rd w' M') (xs.take off ++ ys ++ xs.drop (off + ys.length)) (m1 ++ news ++ m4) := by
    intro w' M' hw' hM'
    have a1 := rows_weak hw' hM' (rows_weak (fun _ _ => rfl) (fun b hb => fl_weak hb (by simp; exact fun h _ => h)) r1)
    have a2 := rows_weak hw' hM' (rows_weak (fun _ _ => rfl) (fun b hb => fl_weak hb (by simp)) hrn)
    have a4 := rows_weak hw' hM' (rows_weak (fun _ _ => rfl) (fun b hb => fl_weak hb (by simp; exact fun h _ => h)) r4)
    rw [List.drop_drop] at a4
    exact (a1.app a2).app a4
  refine ⟨_, hst, ?_⟩
  refine (h.upd l _ (.vec T q (xs.take off ++ ys ++ xs.drop (off + ys.length)) (fr && fr2)) rr hf hr f1 f2 f3 (by omega) (fun b _ hb => f5 b (fun e => hb (by simp [AObj.occ, e, hreal]))) (by simp) (fun b hb => hb) (fun mv hN hNf hbl => ?_)).1
  refine ⟨by simp; omega, g2, g3, ?_⟩
  simp only [hreal, if_true]
  refine ⟨pre, m1 ++ news ++ m4, post, by rw [setRow_same hh]; simp, hp, ?_, ?_⟩
  · refine hrows _ _ (fun b hb => hbl b ?_) fun b hb => ?_
    · cases hg : (fr && fr2) <;> rw [hg] at hb
      · exact hb
      · exact Cx.fresh_N hb
    · by_cases hg : (fr && fr2) = true
      · rw [if_pos hg] at hb ⊢; exact hNf b hb
      · rw [if_neg hg] at hb ⊢; exact hN b hb
  · simp only [List.length_append] at hcap ⊢; omega

/-- An owned row stays, with less known of it. -/
theorem weak_step (h : Rel C s β a w) {l : Nat} {f : Bool} {T : TypeId} {q : K} {xs : List q.den} {fr : Bool} (fr2 : Bool) (hf : s.heap[l]? = some (f, .vec T q xs fr)) : Rel C (s.upd l (.vec T q xs (fr && fr2))) β a w := by
  have hl := (List.getElem?_eq_some_iff.1 hf).1
  obtain ⟨rr, hr⟩ : ∃ r, β[l]? = some r := ⟨_, List.getElem?_eq_getElem (by rw [h.bsize]; exact hl)⟩
  obtain ⟨g1, g2, g3, g4⟩ := h.ob l _ rr hf hr
  refine (h.upd l _ (.vec T q xs (fr && fr2)) rr hf hr rfl rfl rfl (Nat.le_refl _) (fun _ _ _ => rfl) (by simp) (fun b hb => hb) (fun mv hN hNf hbl => ?_)).1
  refine ⟨g1, g2, g3, ?_⟩
  by_cases hreal : rr.real = true
  · simp only [hreal, if_true] at g4 ⊢
    obtain ⟨pre, mid, post, hh, hp, hrow, hcap⟩ := g4
    refine ⟨pre, mid, post, hh, hp, rows_weak (fun _ _ => rfl) (fun b hb => ?_) (rows_weak (fun _ _ => rfl) (fun b hb => fl_weak (g := fr && fr2) hb (by simp; exact fun h _ => h)) hrow), hcap⟩
    by_cases hg : (fr && fr2) = true
    · rw [if_pos hg] at hb ⊢; exact hNf b hb
    · rw [if_neg hg] at hb ⊢; exact hN b hb
  · simp only [hreal] at g4 ⊢
    exact g4

theorem copy_step (hF : FW F) (h : Rel C s β a w) {c : Call} (ho : o.op = .call c) (hcal : c.callee = .builtin .copy) (ee : acopy P s o c k = some r) :
    o.wpIn F n P a w (After C s β (fun i => o.dst = some i) k r) Q := by
  unfold acopy at ee
  split at ee
  rotate_left
  · simp at ee
  rename_i x y t ts hargs htys
  have hargs' : c.args = #[x, y] := by rw [← Array.toArray_toList (xs := c.args), hargs]
  have htys' : c.argTypes[0]? = some t := by rw [← Array.toArray_toList (xs := c.argTypes), htys]; rfl
  split at ee
  rotate_left
  · simp at ee
  rename_i e xa ya ht hx hy
  split at ee
  rotate_left
  · simp at ee
  rename_i q ys fr2 hb
  obtain ⟨B, c2, news, hv, hle, hrn, hcn⟩ := src_cells h (h.ev1 hy) hb
  generalize (fr2 || q.flat) = fr3 at ee hrn
  have hmin : ∀ dl, Nat.min ys.length dl = min ys.length dl := fun _ => rfl
  have run : ∀ (b o' : Nat) (dl dc : Nat) (inf : TypeInfo) (nn : List Value) (w' : World), a.eval x = .slice (some ⟨b, o', none⟩) dl dc → P.info? e = some inf → inf.size = q.size → nn.length = (min ys.length dl) * q.size →
      (min ys.length dl = 0 ∨ ∃ b o, B = some ⟨b, o, none⟩ ∧ cellsAt w b o nn) → (storeCells ⟨b, o', none⟩ nn).run P w = .ok () w' →
      (execOp a.eval o).run P w = .ok (.value (.int .i64 (min ys.length dl : Nat))) w' := by
    intro b o' dl dc inf nn w' hax hi hs hl hcc hst
    have hfc := run_firstCells' (P := P) (w := w) (A := B) (len := ys.length) (c := c2) (size := inf.size) (news := nn) (m := min ys.length dl) (by rw [hl, hs]) hcc
    simp only [execOp, ho, resolve, hcal, hargs', List.map_toArray, List.map_cons, List.map_nil, Sem.run_bind, Sem.run_pure, Result.andThen_ok, invoke, builtin, Builtin.copy_, htys', hv, hax]
    simp [run_underlying' (aelem_some ht), Builtin.lenOf, run_sizeOf hi, hfc, goInt, hmin, hst]
  have run0 : ∀ (A : Option Addr) (dl dc : Nat) (inf : TypeInfo), a.eval x = .slice A dl dc → P.info? e = some inf → min ys.length dl = 0 → (execOp a.eval o).run P w = .ok (.value (.int .i64 (min ys.length dl : Nat))) w := by
    intro A dl dc inf hax hi hz
    have hfc := run_firstCells' (P := P) (w := w) (A := B) (len := ys.length) (c := c2) (size := inf.size) (news := []) (m := min ys.length dl) (by simp [hz]) (.inl hz)
    simp only [execOp, ho, resolve, hcal, hargs', List.map_toArray, List.map_cons, List.map_nil, Sem.run_bind, Sem.run_pure, Result.andThen_ok, invoke, builtin, Builtin.copy_, htys', hv, hax]
    cases A with
    | none => simp [run_underlying' (aelem_some ht), Builtin.lenOf, run_sizeOf hi, hfc, goInt, hmin]
    | some ad =>
      have hst0 : (storeCells ad []).run P w = .ok () w := rfl
      simp [run_underlying' (aelem_some ht), Builtin.lenOf, run_sizeOf hi, hfc, goInt, hmin, hst0]
  have take : ∀ d, ∃ nn, nn.length = (min ys.length d) * q.size ∧ rows (q.rd w (if fr3 then C.fresh s.heap β w else C.N s.heap β w)) (ys.take d) nn ∧ (min ys.length d = 0 ∨ ∃ b o, B = some ⟨b, o, none⟩ ∧ cellsAt w b o nn) := by
    intro d
    have hr := hrn
    rw [← List.take_append_drop d ys] at hr
    obtain ⟨m1, m2, rfl, r1, r2⟩ := rows.of_app hr
    have e1 := rows.len (fun x c => K.rd_len w _ q x c) r1
    refine ⟨m1, by rw [e1, List.length_take, Nat.min_comm], r1, ?_⟩
    rcases hcn with hz | ⟨b, o, hB, hc⟩
    · left; omega
    · exact .inr ⟨b, o, hB, hc.app.1⟩
  split at ee
  · rename_i l
    split at ee
    rotate_left
    · simp at ee
    rename_i T q' xs fr hob
    split at ee
    rotate_left
    · simp at ee
    rename_i hq
    subst hq
    obtain ⟨inf, hi, hs, ee⟩ := szOk_some ee
    obtain ⟨rr, A, dc, hr, hax, hdc, hsl⟩ := h.ev1 hx
    obtain ⟨f, b, hf, hb', g1, g2, g3, g4⟩ := h.obj hob (by simp)
    rw [hr] at hb'; cases hb'
    have hlt : (ys.take xs.length).length = min ys.length xs.length := by simp [Nat.min_comm]
    by_cases hz : min ys.length xs.length = 0
    · have hsame : ys.take xs.length ++ xs.drop ys.length = xs := by
        have h1 : ys.take xs.length = [] := List.eq_nil_of_length_eq_zero (by omega)
        rw [h1, List.nil_append]
        by_cases hy0 : ys.length = 0
        · rw [hy0]; rfl
        · have : xs = [] := List.eq_nil_of_length_eq_zero (by omega)
          rw [this]; simp
      have hrun := run0 A rr.n dc inf hax hi (by rw [g1]; exact hz)
      rw [g1] at hrun
      have hrel := weak_step h fr3 hf
      rw [← hsame] at hrel
      exact wpIn_value hF (by simp [ho]) hrun ⟨_, _, ee, hrel.put _ _ _ rfl, (Ext.upd _ s β _ _ (by rw [hf]; simp)).trans (Ext.put _ _ _ _)⟩
    · obtain ⟨nn, n1, n2, n3⟩ := take xs.length
      have hreal : rr.real = true ∧ A = rr.addr 0 := by
        rcases hsl with ⟨h1, h2, _⟩ | ⟨h1, _⟩
        · exact ⟨h1, by simpa using h2⟩
        · omega
      have hsame : xs.take 0 ++ ys.take xs.length ++ xs.drop (0 + (ys.take xs.length).length) = ys.take xs.length ++ xs.drop ys.length := by
        simp only [List.take_zero, List.nil_append, Nat.zero_add, hlt]
        congr 1
        by_cases hc : ys.length ≤ xs.length
        · rw [Nat.min_eq_left hc]
        · rw [Nat.min_eq_right (by omega), List.drop_eq_nil_of_le (by omega), List.drop_eq_nil_of_le (by omega)]
      obtain ⟨w', hst, hrel⟩ := over_step (P := P) h hf hr hreal.1 (off := 0) (ys := ys.take xs.length) (by rw [hlt]; omega) n2
      rw [hsame] at hrel
      have hrun := run rr.blk rr.base rr.n dc inf nn w' (by rw [hax, hreal.2]; simp [Bl.addr]) hi hs (by rw [g1]; exact n1) (by rw [g1]; exact n3) (by simpa using hst)
      rw [g1] at hrun
      exact wpIn_value hF (by simp [ho]) hrun ⟨_, _, ee, hrel.put _ _ _ rfl, (Ext.upd _ s β _ _ (by rw [hf]; simp)).trans (Ext.put _ _ _ _)⟩
  · rename_i l off len
    split at ee
    rotate_left
    · simp at ee
    rename_i T q' xs fr hob
    split at ee
    rotate_left
    · simp at ee
    rename_i hq
    subst hq
    obtain ⟨inf, hi, hs, ee⟩ := szOk_some ee
    obtain ⟨rr, A, dc, hr, hax, hdc, hoff, hsl⟩ := h.ev1 hx
    obtain ⟨f, b, hf, hb', g1, g2, g3, g4⟩ := h.obj hob (by simp)
    rw [hr] at hb'; cases hb'
    have hlt : (ys.take len).length = min ys.length len := by simp [Nat.min_comm]
    by_cases hz : min ys.length len = 0
    · have hsame : xs.take off ++ ys.take len ++ xs.drop (off + min ys.length len) = xs := by
        have h1 : ys.take len = [] := List.eq_nil_of_length_eq_zero (by omega)
        rw [h1, hz, List.append_nil, Nat.add_zero, List.take_append_drop]
      have hrun := run0 A len dc inf hax hi hz
      have hrel := weak_step h fr3 hf
      rw [← hsame] at hrel
      exact wpIn_value hF (by simp [ho]) hrun ⟨_, _, ee, hrel.put _ _ _ rfl, (Ext.upd _ s β _ _ (by rw [hf]; simp)).trans (Ext.put _ _ _ _)⟩
    · obtain ⟨nn, n1, n2, n3⟩ := take len
      have hreal : rr.real = true ∧ A = rr.addr (off * rr.sz) := by
        rcases hsl with ⟨h1, h2, _⟩ | ⟨h1, _⟩
        · exact ⟨h1, h2⟩
        · omega
      obtain ⟨w', hst, hrel⟩ := over_step (P := P) h hf hr hreal.1 (off := off) (ys := ys.take len) (by rw [hlt]; omega) n2
      rw [hlt] at hrel
      have hrun := run rr.blk (rr.base + off * q'.size) len dc inf nn w' (by rw [hax, hreal.2, g2]; simp [Bl.addr]) hi hs n1 n3 hst
      exact wpIn_value hF (by simp [ho]) hrun ⟨_, _, ee, hrel.put _ _ _ rfl, (Ext.upd _ s β _ _ (by rw [hf]; simp)).trans (Ext.put _ _ _ _)⟩
  · simp at ee

theorem trim_step (hF : FW F) (h : Rel C s β a w) (hd : ∀ c, o.op ≠ .defer c) (ee : aval P s o (fun tv => atrimV s o.dst tv k) = some r) :
    o.wpIn F n P a w (After C s β (fun i => o.dst = some i) k r) Q := by
  obtain ⟨tv, v, hk, hr, hv⟩ := aval_sound h ee
  unfold atrimV at hk
  split at hk
  rotate_left
  · simp at hk
  rename_i l off len
  split at hk
  rotate_left
  · simp at hk
  rename_i T q xs fr hob
  have hv' : (AV.vw l off len).R w (C.N s.heap β w) (C.fresh s.heap β w) β v := hv
  have eo : aowned s.heap T q (.vw l off len) = some ((xs.drop off).take len, fr, some l) := by simp [aowned, hob]
  obtain ⟨_, _, _, _, _, _, _, hkl, _⟩ := own_cells h hv' eo
  obtain ⟨rr, hrel, A, cc, e1, e2, e3⟩ := trim_core h hv' eo
  refine wpIn_value hF hd hr ⟨_, _, hk, hrel.put _ _ _ ?_, ((Ext.kill _ s β _ hkl).trans (Ext.push _ _ _ _ _)).trans (Ext.put _ _ _ _)⟩
  exact ⟨rr, A, cc, by rw [← h.bsize]; simp, e1, e2, e3⟩

theorem step_sound (hF : FW F) {Γ : Env} (hΓ : Γ.Sound P) (h : Rel C s β a w) (ee : astep P Γ s o k = some r) :
    o.wpIn F n P a w (After C s β (fun i => o.dst = some i) k r) Q := by
  unfold astep at ee
  split at ee
  · rename_i ho
    split at ee
    · exact trim_step hF h (by simp [ho]) ee
    · exact value_step hF h (by simp [ho]) ee
  · rename_i t ho
    split at ee
    · exact alloc_step hF h ho ‹_› ee
    · simp at ee
  · rename_i t x ho
    split at ee
    · exact box_op_step hF h ho ‹_› ee
    · simp at ee
  · rename_i t x y ho
    exact make_step hF h ho ee
  · rename_i t m parts ho
    exact buildSlice_step hF h ho ee
  · rename_i t x y ho
    split at ee
    · exact store_step hF h ho ‹_› ee
    · simp at ee
  · rename_i t x i ok ho
    obtain ⟨tv, v, h1, h2, h3⟩ := alookup_sound h ho ee
    exact wpIn_value hF (by simp [ho]) h2 ⟨_, _, h1, h.put _ _ _ h3, Ext.put _ _ _ _⟩
  · rename_i x ho
    obtain ⟨tv, v, h1, h2, h3⟩ := aentry_sound h ho ee
    exact wpIn_value hF (by simp [ho]) h2 ⟨_, _, h1, h.put _ _ _ h3, Ext.put _ _ _ _⟩
  · rename_i t x ho
    exact range_step hF h ho ee
  · rename_i t ho
    exact makeMap_step hF h ho ee
  · rename_i t m i x ho
    exact mapUpdate_step hF h ho ee
  · rename_i c ho
    split at ee
    · rename_i hcal
      split at ee
      · exact appendV_step hF h ho hcal ee
      · exact append_step hF h ho hcal ee
    · exact copy_step hF h ho ‹_› ee
    · exact delete_step hF h ho ‹_› ee
    · exact value_step hF h (by simp [ho]) ee
    · rename_i f hc
      split at ee
      · rename_i hfv
        split at ee
        · exact call_step hF h hΓ ho hc hfv ee
        · rename_i d hd
          split at ee
          · exact call_step hF h hΓ ho hc hfv ee
          · split at ee
            · exact callH_step hF h ho hc hfv (hΓ.hd _ d hd) ee
            · simp at ee
      · simp at ee
    · simp at ee
  · rename_i h1 h2 h3 h4 h5 h6 h7 h8 h9 h10 h11
    refine value_step hF h (fun c hc => ?_) ee
    rw [aval, hc] at ee
    simp at ee
end
end Go.Proofs.AM
end

section
/- New rows of whatever bytes. -/
namespace Go.Proofs.AM
open Go Go.RowKit

theorem digits_ints : ∀ (n t : Nat) (acc : Array Value), ∃ l : List Int, l.length = n ∧ Extern.BytealgMakeNoZero.digits n t acc = acc ++ (l.map (Value.int .u8)).toArray
  | 0, _, acc => ⟨[], rfl, by simp [Extern.BytealgMakeNoZero.digits]⟩
  | n + 1, t, acc => by
    obtain ⟨l, h1, h2⟩ := digits_ints n (t / 256) (acc.push (.int .u8 (Int.ofNat (t % 256))))
    refine ⟨Int.ofNat (t % 256) :: l, by simp [h1], ?_⟩
    rw [Extern.BytealgMakeNoZero.digits, h2]
    apply Array.ext'
    simp

/-- Where the number is in bounds, the entry asks twice, for room and for bytes, and lays the row. -/
theorem bytes_entry {P : Program} {w : World} {ps : Array TypeId} {t e : TypeId} (ht : P.underlying t = some (.slice e)) {n : Nat} (h3 : ¬ (n : Int) < 0) (h4 : ¬ (281474976710656 : Int) < (n : Int)) :
    (Extern.BytealgMakeNoZero.makeNoZero ps #[t] #[.int .i64 n]).run P w =
      (choose (.appendCap (n : Int).toNat 0 e) >>= fun c => askRoom c >>= fun _ => choose (.extern "internal/bytealg.MakeNoZero.bytes" 0) >>= fun b =>
        newRow e (Extern.BytealgMakeNoZero.digits c b #[]) >>= fun a => pure (Value.slice (some a) (n : Int).toNat c)).run P w := by
  show ((underlying t >>= _ : Sem Value)).run P w = _
  rw [Sem.run_bind, run_underlying' ht, Result.andThen_ok]
  show (if ((n : Int) < 0 || (n : Int) > 2 ^ 48) = true then _ else _ : Sem Value).run P w = _
  rw [if_neg (by simp; omega)]

/-- The entry's own run: the row and what it holds. -/
theorem bytes_run {P : Program} (w : World) (ps : Array TypeId) (t e : TypeId) (ht : P.underlying t = some (.slice e)) (n : Nat) (hn : n ≤ 281474976710656) :
    ∃ l : List Int, (Extern.BytealgMakeNoZero.makeNoZero ps #[t] #[.int .i64 n]).run P w = .ok (.slice (some ⟨w.heap.size, 0, none⟩) n l.length) (w.drew.drew.alloc (.cells (l.map (Value.int .u8)).toArray e)) ∧ n ≤ l.length := by
  obtain ⟨l, h1, h2⟩ := digits_ints (grownCap w n 0 e) ((Question.extern "internal/bytealg.MakeNoZero.bytes" 0).cut (w.tape (w.drawn + 1) (.extern "internal/bytealg.MakeNoZero.bytes" 0))) #[]
  refine ⟨l, ?_, ?_⟩
  · have h3 : ¬ (n : Int) < 0 := by omega
    have h4 : ¬ (281474976710656 : Int) < (n : Int) := by omega
    simp only [Array.empty_append] at h2
    rw [← h2, h1]
    rw [bytes_entry ht h3 h4]
    simp [Question.forced, newRow, grownCap]
  · rw [h1]
    simpa using grownCap_ge w n 0 e

open Classical in
/-- What comes of any row of so many bytes, where it does not hang on them. -/
noncomputable def anyBytes {R : Type} (n : Int) (f : List Int → Option R) : Option R := if h : ∃ r, ∀ xs : List Int, (xs.length : Int) = n → f xs = some r then some (Classical.choose h) else none

theorem anyBytes_some {R : Type} {n : Int} {f : List Int → Option R} {r : R} (h : anyBytes n f = some r) {xs : List Int} (hx : (xs.length : Int) = n) : f xs = some r := by
  unfold anyBytes at h
  split at h
  · rename_i hh
    simp only [Option.some.injEq] at h
    subst h
    exact Classical.choose_spec hh xs hx
  · simp at h

theorem anyBytes_eq {R : Type} {n : Int} {f : List Int → Option R} {r : R} (h0 : 0 ≤ n) (h : ∀ xs : List Int, (xs.length : Int) = n → f xs = some r) : anyBytes n f = some r := by
  have hh : ∃ r, ∀ xs : List Int, (xs.length : Int) = n → f xs = some r := ⟨r, h⟩
  have h1 : anyBytes n f = some (Classical.choose hh) := by unfold anyBytes; rw [dif_pos hh]
  have hl : ((List.replicate n.toNat (0 : Int)).length : Int) = n := by simp; omega
  have := anyBytes_some h1 hl
  rw [h _ hl] at this
  rw [h1, this]
end Go.Proofs.AM
end

section
/- Rows of pointers, each told: the row is written out, its elements are pointed at. -/
namespace Go.Proofs.AM
open Go Go.RowKit

/-- The elements of a row that is written out, each of one cell. -/
def aelemsA : Nat → List (Nat × TV) → Option (List AV)
  | _, [] => some []
  | n, (i, t) :: r => if i = n ∧ t.solid = true ∧ t.cells.length = 1 then match aelemsA (n + 1) r with
    | some cs => some (t.cells ++ cs)
    | none => none
    else none

/-- A row of pointers that is written out: its elements' type, its cells. -/
def arowp (P : Program) (s : AS) (t : TypeId) (n : Nat) (parts : List (Nat × Operand)) : Option (TypeId × List AV) :=
  match aelem P t with
  | none => none
  | some e => match P.underlying e, P.info? e, azero P e with
    | some (.pointer _), some i, some z => if i.size = 1 ∧ z.length = 1 ∧ parts.length = n ∧ n ≤ 16777216 then
        match aelemsA 0 (parts.map fun p => (p.1, s.ev p.2)) with
        | some cs => some (e, cs)
        | none => none
      else none
    | _, _, _ => none

/-- An element of such a row is pointed at. -/
def arowi (P : Program) (s : AS) (t : TypeId) (x i : Operand) : Option (Nat × Nat × Int) :=
  match aelem P t, s.ev x, s.ev i with
  | some e, .one (.vw l off len), .one (.dat (.int _) n _) => match hat s.heap l, P.info? e with
    | .box _ _, some inf => if off = 0 ∧ inf.size = 1 then some (l, len, n) else none
    | _, _ => none
  | _, _, _ => none

section
variable {P : Program} {C : Cx} {s : AS} {β : List Bl} {a : Act} {w : World} {R : Type} {k : AS → Option R} {r : R} {F : Fence} {n : Nat} {Q : Exit → Act → World → Prop} {o : Oper}

theorem aelemsA_sound (h : Rel C s β a w) : ∀ {ps : List (Nat × Operand)} {j : Nat} {cs : List AV}, aelemsA j (ps.map fun p => (p.1, s.ev p.2)) = some cs →
    ∃ news, All2 (AV.R w (C.N s.heap β w) (C.fresh s.heap β w) β) cs news ∧ news.length = ps.length ∧
      ∀ (pre : List Value) (cells : Array Value), pre.length = j → cells.toList.take j = pre → cells.size = j + ps.length →
        Instr.fill (fun i => some (i * 1, 1)) cells (ps.map fun p => (p.1, a.eval p.2)) = some (pre ++ news).toArray
  | [], j, cs, e => by
    simp [aelemsA] at e
    subst e
    refine ⟨[], trivial, rfl, fun pre cells h1 h2 h3 => ?_⟩
    simp only [List.map_nil, Instr.fill, Option.some.injEq, List.append_nil]
    apply Array.ext'
    rw [← h2, List.take_of_length_le (by simp at h3 ⊢; omega)]
  | p :: ps, j, cs, e => by
    simp only [List.map_cons] at e
    unfold aelemsA at e
    split at e
    rotate_left
    · simp at e
    rename_i hc
    obtain ⟨rfl, hsol, hlen⟩ := hc
    split at e
    rotate_left
    · simp at e
    rename_i cs1 hcs
    simp only [Option.some.injEq] at e
    subst e
    obtain ⟨news, hr, hl2, hfill⟩ := aelemsA_sound h hcs
    have hcl := TV.R_cells (h.ev p.2) hsol
    have hvl := hcl.len
    simp only [Array.length_toList] at hvl
    refine ⟨(a.eval p.2).cells.toList ++ news, hcl.app hr, ?_, ?_⟩
    · simp [hl2, ← hvl, hlen]; omega
    · intro pre cells h1 h2 h3
      simp only [List.map_cons]
      unfold Instr.fill
      simp only [List.length_cons] at h3
      have hfit : p.1 * 1 + (a.eval p.2).cells.size ≤ cells.size := by rw [h3, ← hvl, hlen]; omega
      show (if _ then none else _) = _
      rw [if_neg (by simp only [ne_eq, Bool.or_eq_true, decide_eq_true_eq, not_or]; omega)]
      have hf := fill_step cells (a.eval p.2).cells (p.1 * 1) hfit
      have := hfill (pre ++ (a.eval p.2).cells.toList) (cells.toList.take (p.1 * 1) ++ (a.eval p.2).cells.toList ++ cells.toList.drop (p.1 * 1 + (a.eval p.2).cells.size)).toArray
        (by simp [h1, ← hvl, hlen]) (by
          rw [Nat.mul_one, h2]
          simp only [List.append_assoc]
          rw [← List.append_assoc, List.take_left' (by simp [h1, ← hvl, hlen])])
        (by simp [h3, ← hvl, hlen]; omega)
      rw [← List.append_assoc, ← this]
      congr 1

theorem rowp_step (hF : FW F) (h : Rel C s β a w) {t : TypeId} {m : Nat} {parts : Array (Nat × Operand)} (ho : o.op = .buildSlice t m parts) {e : TypeId} {cs : List AV} (er : arowp P s t m parts.toList = some (e, cs))
    (ee : k ((s.push (.box e cs)).put o.dst (.one (.vw s.heap.length 0 m))) = some r) : o.wpIn F n P a w (After C s β (fun i => o.dst = some i) k r) Q := by
  unfold arowp at er
  split at er
  · simp at er
  rename_i e' ht
  split at er
  rotate_left
  · simp at er
  rename_i pt i z hpt hi hz
  split at er
  rotate_left
  · simp at er
  rename_i hs
  obtain ⟨hs1, hs2, hs3, hs4⟩ := hs
  split at er
  rotate_left
  · simp at er
  rename_i cs' hx
  simp only [Option.some.injEq, Prod.mk.injEq] at er
  obtain ⟨rfl, rfl⟩ := er
  obtain ⟨i', zv, hi', hzv, hzl, hzR⟩ := azero_R (C := C) (s := s) (β := β) (w := w) hz
  rw [hi] at hi'; cases hi'
  obtain ⟨news, hr, hl2, hfill⟩ := aelemsA_sound h hx
  have hrun : (Instr.buildSlice t m (parts.map fun (x : Nat × Operand) => (x.1, a.eval x.2))).run P w = .ok (.slice (some ⟨w.heap.size, 0, none⟩) m m) (w.alloc (.cells news.toArray e')) := by
    unfold Instr.buildSlice
    simp only [Sem.run_bind, run_underlying' (aelem_some ht), Result.andThen_ok, run_sizeOf hi]
    rw [if_neg (by rw [hs1]; omega)]
    by_cases hm0 : m * i.size = 0
    · rw [if_pos hm0]
      rw [hs1] at hm0
      have := hfill [] #[] (by simp) (by simp) (by rw [hs3]; simp; omega)
      simp only [List.nil_append] at this
      have he : ∀ g : Nat → Value, Array.map g (Array.range 0) = #[] := fun g => by apply Array.ext'; simp
      simp [hs1, show m = 0 by omega, newRow, he] at this ⊢
      simp [this]
    · rw [if_neg hm0]
      simp only [Sem.run_bind, zeroValue, typeInfo, run_program, Result.andThen_ok, hi, Sem.run_pure, hzv]
      have := hfill [] ((Array.range (m * i.size)).map (zv.cells[· % zv.cells.size]!)) (by simp) (by simp) (by rw [hs3, hs1]; simp)
      simp only [List.nil_append] at this
      rw [hs1] at this ⊢
      simp only [Array.toList_map, this]
      simp [newRow]
  have hnew : (w.alloc (.cells news.toArray e')).heap[w.heap.size]? = some (.cells news.toArray e') := heap_alloc_new w _
  obtain ⟨h2, mv⟩ := h.push (Grew.alloc w (.cells news.toArray e')) (.box e' cs') ⟨w.heap.size, 0, 1, m, m, true, none⟩ (fun b hb => by simp only [AObj.occ, List.mem_singleton] at hb; subst hb; simp)
    (fun mv hN hNf => ⟨news, by rw [hnew], rfl, hr.mono mv⟩)
  refine wpIn_value hF (by simp [ho]) (v := .slice (some ⟨w.heap.size, 0, none⟩) m m) (w' := w.alloc (.cells news.toArray e')) (by simp only [execOp, ho, Sem.run_bind, hrun, Result.andThen_ok, Sem.run_pure]) ⟨_, _, ee, h2.put _ _ _ ?_, (Ext.push _ s β _ _).trans (Ext.put _ _ _ _)⟩
  exact ⟨⟨w.heap.size, 0, 1, m, m, true, none⟩, _, m, by rw [← h.bsize]; simp, rfl, Nat.le_refl _, by simp, .inl ⟨rfl, by simp [Bl.addr], by simp⟩⟩

theorem rowi_step (hF : FW F) (h : Rel C s β a w) {t : TypeId} {x i : Operand} (ho : o.op = .indexAddr t x i) {l len : Nat} {j : Int} (er : arowi P s t x i = some (l, len, j))
    (ee : gd (0 ≤ j) (gd (j < (len : Int)) (k (s.put o.dst (.one (.ptr l j.toNat))))) = some r) : o.wpIn F n P a w (After C s β (fun i => o.dst = some i) k r) Q := by
  unfold arowi at er
  split at er
  rotate_left
  · simp at er
  rename_i e l' off' len' q j' fr ht hx hi
  split at er
  rotate_left
  · simp at er
  rename_i T cs inf hob hinf
  split at er
  rotate_left
  · simp at er
  rename_i hsz
  obtain ⟨rfl, hsz⟩ := hsz
  simp only [Option.some.injEq, Prod.mk.injEq] at er
  obtain ⟨rfl, rfl, rfl⟩ := er
  obtain ⟨h0, ee⟩ := gd_some ee
  obtain ⟨h1, ee⟩ := gd_some ee
  obtain ⟨rr, A, c, hr, hv, hc, _, hsl⟩ := h.ev1 hx
  rcases hsl with ⟨hreal, rfl, _⟩ | ⟨hz, _⟩
  · have hobj : rr.base = 0 := by
      obtain ⟨f, b, hf, hb, hoR⟩ := h.obj hob (by simp)
      rw [hr] at hb; cases hb
      obtain ⟨vs, _, hb0, _⟩ := hoR
      exact hb0
    refine wpIn_value hF (by simp [ho]) (v := .pointer (rr.addr j'.toNat)) (w' := w) ?_ ⟨_, _, ee, h.put _ _ _ ⟨rr, hr, rfl⟩, Ext.put _ _ _ _⟩
    have hj := h.evInt hi
    simp only [execOp, ho, hv, hj, Bl.addr, Nat.zero_mul, Nat.add_zero, Sem.run_bind]
    rw [run_indexAt (aelem_some ht) hinf h0 h1, hsz]
    simp
  · omega
end
end Go.Proofs.AM
end

section
/- Regions in the order of the text. -/
namespace Go.Proofs.AM
open Go Go.RowKit

def litTV (b : Bool) : TV := .one (.dat .bool b true)

/-- Where an operation's guard stands. -/
def gslot (ops : Array Oper) (j : Nat) : Option Nat := match ops[j]? with
  | some o => o.dst
  | none => none

section
variable {R : Type}

/-- One operation, whether it is carried out or not. -/
def aop (P : Program) (Γ : Env) (ops : Array Oper) (o : Oper) (s : AS) (k : AS → Option R) : Option R :=
  match o.guard with
  | none => astep P Γ s o k
  | some (j, want) => match gslot ops j with
    | none => none
    | some d => match s.tmps[d]? with
      | some (.one (.dat .bool b _)) =>
        cond b (if want = true then astep P Γ (s.put (some d) (litTV true)) o k else k ((s.put (some d) (litTV true)).put o.dst undefTV))
          (if want = true then k ((s.put (some d) (litTV false)).put o.dst undefTV) else astep P Γ (s.put (some d) (litTV false)) o k)
      | some (.tup []) => k (s.put o.dst undefTV)
      | _ => none

/-- The method of a pointer's type, by its name. -/
def methodOf (P : Program) (t : TypeId) (name : String) : Option FuncId := match P.underlying t with
  | some (.pointer _) => match P.info? t with
    | some i => match i.methods.find? (·.name == name) with
      | some m => match m.path.toList, m.func with
        | [], some (f, true) => some f
        | _, _ => none
      | none => none
    | none => none
  | _ => none

/-- A step, where calls may be carried out in place. -/
def astepI (P : Program) (Γ : Env) (s : AS) (o : Oper) (k : AS → Option R) : Option R :=
  match o.op with
  | .call c => match c.callee with
    | .value f => match s.ev f with
      | .one (.fn fid caps) => match Γ.inl fid with
        | some d => d.run Γ.yl R s.heap (c.args.toList.map s.ev ++ caps.map (fun l => .one (.ptr l 0))) (fun h tv => k ({ s with heap := h }.put o.dst tv))
        | none => astep P Γ s o k
      | .one (.yl l) => match lookY Γ.yl l with
        | some H => H R s.heap (c.args.toList.map s.ev) (fun h tv => k ({ s with heap := h }.put o.dst tv))
        | none => none
      | _ => none
    | .invoke x name => match s.ev x with
      | .one (.ifc t a) => match methodOf P t name with
        | some fid => match Γ.inl fid with
          | some d => d.run Γ.yl R s.heap (.one a :: c.args.toList.map s.ev) (fun h tv => k ({ s with heap := h }.put o.dst tv))
          | none => match Γ.hd fid with
            | some d => acallH d s (.one a :: c.args.toList.map s.ev) (fun s' tv => k (s'.put o.dst tv))
            | none => acall Γ s fid (.one a :: c.args.toList.map s.ev) (fun tv => k (s.put o.dst tv))
        | none => none
      | _ => none
    | _ => astep P Γ s o k
  | .indexAddr t x i => match arowi P s t x i with
    | some (l, len, n) => gd (0 ≤ n) (gd (n < (len : Int)) (k (s.put o.dst (.one (.ptr l n.toNat)))))
    | none => astep P Γ s o k
  | .buildSlice t m parts => match arowp P s t m parts.toList with
    | some (e, cs) => k ((s.push (.box e cs)).put o.dst (.one (.vw s.heap.length 0 m)))
    | none => astep P Γ s o k
  | _ => astep P Γ s o k

/-- The same, where calls may be carried out in place. -/
def aopI (P : Program) (Γ : Env) (ops : Array Oper) (o : Oper) (s : AS) (k : AS → Option R) : Option R :=
  match o.guard with
  | none => astepI P Γ s o k
  | some (j, want) => match gslot ops j with
    | none => none
    | some d => match s.tmps[d]? with
      | some (.one (.dat .bool b _)) =>
        cond b (if want = true then astepI P Γ (s.put (some d) (litTV true)) o k else k ((s.put (some d) (litTV true)).put o.dst undefTV))
          (if want = true then k ((s.put (some d) (litTV false)).put o.dst undefTV) else astepI P Γ (s.put (some d) (litTV false)) o k)
      | some (.tup []) => k (s.put o.dst undefTV)
      | _ => none

open Classical in
/-- What two ways come to, where it is the same. -/
noncomputable def both (a b : Option R) : Option R := if a = b then a else none

theorem both_some {a b : Option R} {r : R} (h : both a b = some r) : a = some r ∧ b = some r := by
  unfold both at h
  split at h
  · rename_i e; exact ⟨h, e ▸ h⟩
  · simp at h

/-- A slice held against nil, of which only the elements are known: it is nil only if it has none. -/
def anil (P : Program) (s : AS) (o : Oper) : Option (Bool × Bool) := match o.op, o.guard with
  | .binOp .eql t x (.const (.slice none 0 0)) _, none => match aelem P t, s.ev x with
    | some _, .one (.dat (.sl _) xs _) => some (decide ((List.length xs : Int) = 0), false)
    | some _, .one (.vf l) => match hat s.heap l with
      | .vec _ _ xs _ => some (decide ((List.length xs : Int) = 0), false)
      | _ => none
    | _, _ => none
  | .binOp .neq t x (.const (.slice none 0 0)) _, none => match aelem P t, s.ev x with
    | some _, .one (.dat (.sl _) xs _) => some (decide ((List.length xs : Int) = 0), true)
    | some _, .one (.vf l) => match hat s.heap l with
      | .vec _ _ xs _ => some (decide ((List.length xs : Int) = 0), true)
      | _ => none
    | _, _ => none
  | _, _ => none

/-- A call that makes a row of whatever bytes: its elements' type, how many. -/
def amnz (Γ : Env) (s : AS) (o : Oper) : Option (TypeId × Int) := match o.op, o.guard with
  | .call c, none => match c.callee with
    | .value (.func f) => match Γ.mnz f, c.args.toList with
      | some (_, e), [x] => match s.ev x with
        | .one (.dat (.int .i64) n _) => some (e, n)
        | _ => none
      | _, _ => none
    | _ => none
  | _, _ => none

noncomputable def aops (P : Program) (Γ : Env) (ops : Array Oper) : List Oper → AS → (AS → Option R) → Option R
  | [], s, k => k s
  | o :: l, s, k => match anil P s o with
    | some (e, n) => both (aops P Γ ops l (s.put o.dst (.one (.dat .bool (cond n (!e) e) true))) k) (aops P Γ ops l (s.put o.dst (.one (.dat .bool n true))) k)
    | none => match amnz Γ s o with
      | some (e, n) => gd (0 ≤ n) (gd (n ≤ 140737488355328) (anyBytes n fun xs => aops P Γ ops l (s.made false o.dst e (.int .u8) xs true) k))
      | none => aopI P Γ ops o s fun s' => aops P Γ ops l s' k
end

section
variable {P : Program} {C : Cx} {s : AS} {β : List Bl} {a : Act} {w : World} {R : Type} {k : AS → Option R} {r : R} {F : Fence} {n : Nat} {Q : Exit → Act → World → Prop} {o : Oper}

/-- What one operation of a region comes to, carried out or not. -/
def OpOK (F : Fence) (n : Nat) (P : Program) (ops : Array Oper) (o : Oper) (a : Act) (w : World) (K : Act → World → Prop) (Q : Exit → Act → World → Prop) : Prop :=
  if Region.wanted o (yielded ops a.tmps) then o.wpIn F n P a w K Q else K (a.put o.dst undef) w

theorem Rel.lit (h : Rel C s β a w) {d : Nat} {b f : Bool} (e : s.tmps[d]? = some (.one (.dat .bool b f))) : Rel C (s.put (some d) (litTV b)) β a w ∧ a.tmps.getD d undef = .bool b := by
  have hv : a.tmps.getD d undef = .bool b := by simpa [TV.R, AV.R, K.rd] using h.tm d _ e
  have hl := (List.getElem?_eq_some_iff.1 e).1
  have := h.put (some d) (litTV b) (.bool b) (by simp [litTV, TV.R, AV.R, K.rd])
  refine ⟨?_, hv⟩
  have hsame : a.put (some d) (.bool b) = a := by
    have hd : d < a.tmps.size := by rw [h.tsize]; exact hl
    have : a.tmps.setIfInBounds d (.bool b) = a.tmps := by
      apply Array.ext
      · simp
      · intro i h1 h2
        rw [Array.getElem_setIfInBounds h2]
        split
        · rename_i hi; subst hi
          rw [← hv]; simp [hd]
        · rfl
    simp [Act.put, this]
  rwa [hsame] at this

theorem aop_sound (hF : FW F) {Γ : Env} (hΓ : Γ.Sound P) (h : Rel C s β a w) {ops : Array Oper} (e : aop P Γ ops o s k = some r) :
    OpOK F n P ops o a w (After C s β (fun i => o.dst = some i ∨ ∃ j want, o.guard = some (j, want) ∧ gslot ops j = some i) k r) Q := by
  have wk : ∀ {s1 : AS} {β1 : List Bl} {a' : Act} {w' : World}, After C s β (fun i => o.dst = some i) k r a' w' → After C s β (fun i => o.dst = some i ∨ ∃ j want, o.guard = some (j, want) ∧ gslot ops j = some i) k r a' w' :=
    fun ⟨s', β', h1, h2, h3⟩ => ⟨s', β', h1, h2, h3.mono fun i hi => .inl hi⟩
  unfold aop at e
  unfold OpOK
  split at e
  · rename_i hg
    have hw : Region.wanted o (yielded ops a.tmps) = true := by simp [Region.wanted, hg]
    rw [if_pos hw]
    have := step_sound (F := F) (n := n) (Q := Q) hF hΓ h e
    exact Oper.wpIn_mono (fun a' w' hh => wk (s1 := s) (β1 := β) hh) this
  · rename_i j want hg
    split at e
    · simp at e
    rename_i d hd
    have hyield : yielded ops a.tmps j = (match a.tmps.getD d undef with | .bool b => some b | _ => none) := by
      unfold gslot at hd
      cases ho : ops[j]? with
      | none => simp [ho] at hd
      | some oj =>
        simp only [ho] at hd
        unfold yielded
        simp [ho, hd]
        cases a.tmps[d]? with
        | none => rfl
        | some v => cases v <;> rfl
    split at e
    · rename_i b f hb
      obtain ⟨h1, hv⟩ := h.lit hb
      have hwant : Region.wanted o (yielded ops a.tmps) = (b == want) := by
        unfold Region.wanted
        rw [hg]
        simp only [hyield, hv]
        cases b <;> cases want <;> rfl
      have step : astep P Γ (s.put (some d) (litTV b)) o k = some r → o.wpIn F n P a w (After C s β (fun i => o.dst = some i ∨ ∃ j want, o.guard = some (j, want) ∧ gslot ops j = some i) k r) Q := fun e => by
        have := step_sound (F := F) (n := n) (Q := Q) hF hΓ h1 e
        refine Oper.wpIn_mono (fun a' w' hh => ?_) this
        obtain ⟨s', β', g1, g2, g3⟩ := hh
        exact ⟨s', β', g1, g2, ((Ext.put s β (some d) (litTV b)).mono fun i hi => .inr ⟨j, want, hg, by rw [hd]; exact hi⟩).trans (g3.mono fun i hi => .inl hi)⟩
      have skip : k ((s.put (some d) (litTV b)).put o.dst undefTV) = some r → After C s β (fun i => o.dst = some i ∨ ∃ j want, o.guard = some (j, want) ∧ gslot ops j = some i) k r (a.put o.dst undef) w := fun e =>
        ⟨_, _, e, h1.put _ _ _ undefTV_R, ((Ext.put s β (some d) (litTV b)).mono fun i hi => .inr ⟨j, want, hg, by rw [hd]; exact hi⟩).trans ((Ext.put _ _ _ _).mono fun i hi => .inl hi)⟩
      rw [hwant]
      cases b <;> cases want
      · exact step e
      · exact skip e
      · exact skip e
      · exact step e
    · rename_i hb
      have hv : a.tmps.getD d undef = .tuple #[] := by
        obtain ⟨vs, hv, hvs⟩ := h.tm d _ hb
        match vs, hvs with
        | [], _ => exact hv
      have hwant : Region.wanted o (yielded ops a.tmps) = false := by
        unfold Region.wanted
        rw [hg]
        simp only [hyield, hv]
        rfl
      rw [hwant]
      exact ⟨_, _, e, h.put _ _ _ undefTV_R, (Ext.put _ _ _ _).mono fun i hi => .inl hi⟩
    · simp at e

/-- A call behind which memory is as 'CallPost' says. -/
theorem grown_ext {h' : Heap} {β' : List Bl} (hg : Grown s.heap h' β β') (d : Nat → Prop) : Ext d s { s with heap := h' } β β' :=
  ⟨hg.bx, fun _ _ => rfl, rfl, hg.hl, hg.hp, ⟨[], rfl⟩, hg.hm⟩

theorem RoundIn.wide {F : Fence} (hF : FW F) {m n l : Nat} {f : FuncId} {tmps : Array Value} {assign body : Code} {R : Ending → World → Prop} (h : RoundIn Fence.wide m P l f tmps assign body w R) : RoundIn F n P l f tmps assign body w R := by
  have h0 : RoundIn Fence.wide n P l f tmps assign body w R := ⟨h.1, fun c cs hr => h.2 c cs (room_wide _)⟩
  rcases hF with rfl | ⟨l', rfl⟩
  · exact h0
  · exact h0

theorem methodOf_run {t : TypeId} {name : String} {f : FuncId} (hm : methodOf P t name = some f) (fuel : Nat) (v : Value) : (method (fuel + 1) t v name).run P w = .ok (f, v) w := by
  unfold methodOf at hm
  split at hm
  rotate_left
  · simp at hm
  rename_i el hu
  split at hm
  rotate_left
  · simp at hm
  rename_i i hi
  split at hm
  rotate_left
  · simp at hm
  rename_i m hf
  split at hm
  rotate_left
  · simp at hm
  rename_i f' hp hfn
  simp only [Option.some.injEq] at hm
  subst hm
  unfold method
  simp only [Sem.run_bind, run_typeInfo w hi, Result.andThen_ok, hf, hp, follow, Sem.run_pure, hfn]
  unfold receiverAt
  simp only [Sem.run_bind, run_underlying' hu, Result.andThen_ok, Place.get, Sem.run_pure]

theorem invoke_run {c : Call} (ho : o.op = .call c) {x : Operand} {name : String} (hc : c.callee = .invoke x name) {t : TypeId} {u : Value} (hv : a.eval x = .iface t u) {fid : FuncId} (hm : methodOf P t name = some fid)
    (hcall : ∀ args w, (callFunc fid args).run P w = .ok (.enter fid args) w) : (execOp a.eval o).run P w = .ok (.enter fid (u :: c.args.toList.map a.eval).toArray) w := by
  have e1 : ((#[Value.iface t u] ++ c.args.map a.eval).extract 1 (#[Value.iface t u] ++ c.args.map a.eval).size) = c.args.map a.eval := by
    apply Array.ext'
    simp [List.take_of_length_le]
  have e2 : (#[Value.iface t u] ++ c.args.map a.eval)[0]? = some (.iface t u) := by
    rw [Array.getElem?_append_left (by simp)]; rfl
  have e3 : P.types.size + Made.depth = (P.types.size + (Made.depth - 1)) + 1 := by
    have : 0 < Made.depth := by decide
    omega
  have e4 : ∀ as, (callMethod (.iface t u) name as).run P w = .ok (.enter fid (#[u] ++ as)) w := fun as => by
    unfold callMethod
    show (method (P.types.size + Made.depth) t u name >>= fun p => callFunc p.1 (#[p.2] ++ as)).run P w = _
    rw [e3, Sem.run_bind, methodOf_run hm]
    simp only [Result.andThen_ok, hcall]
  have e5 : (invoke (.fn (.method name) #[]) (#[Value.iface t u] ++ c.args.map a.eval)).run P w = .ok (.enter fid (u :: c.args.toList.map a.eval).toArray) w := by
    simp only [invoke, e2, e1, e4]
    congr 2
    apply Array.ext'; simp
  simp only [execOp, ho, resolve, hc, Sem.run_bind, Sem.run_pure, Result.andThen_ok, hv]
  exact e5

theorem stepI_sound (hF : FW F) {Γ : Env} (hΓ : Γ.Sound P) (hY : YOK P C β Γ.yl) (h : Rel C s β a w) (ee : astepI P Γ s o k = some r) :
    o.wpIn F n P a w (After C s β (fun i => o.dst = some i) k r) Q := by
  unfold astepI at ee
  split at ee
  · rename_i c ho
    split at ee
    · rename_i f hc
      split at ee
      · rename_i fid caps hf
        split at ee
        · rename_i d hd
          have hds := hΓ.inl _ d hd
          obtain ⟨bs, hv, hb⟩ := h.ev1 hf
          refine wpIn_enter hF (by simp [ho]) (f := fid) (args := (c.args.toList.map a.eval ++ bs).toArray) (w' := w) (enter_run ho hc hv hds.1)
            (hds.2 C β Γ.yl R _ _ r s ee a w _ (hY.mono (CxLe.push C s a) ⟨[], by simp⟩) h ((call_args h c.args.toList).app (call_caps hb))) ?_
          rintro e' w'' ⟨v, h', tv, β', rfl, hk, hr, ht, hg⟩
          exact ⟨v, rfl, _, _, hk, hr.put _ _ _ ht, (grown_ext hg _).trans (Ext.put _ _ _ _)⟩
        · exact step_sound hF hΓ h ee
      · rename_i l hf
        split at ee
        rotate_left
        · simp at ee
        rename_i H hH
        obtain ⟨rr, hr, hv⟩ := h.ev1 hf
        obtain ⟨rr', hr', hh⟩ := hY l H hH
        rw [hr] at hr'; cases hr'
        obtain ⟨fn, tmps, assign, body, hy, hround⟩ := hh C (CxLe.refl C) R _ _ r s ee β a w _ ⟨[], by simp⟩ h (call_args h c.args.toList)
        have hrun : (execOp a.eval o).run P w = .ok (.round rr.blk fn tmps assign body) w := by
          simp only [execOp, ho, resolve, hc, Deferred.ofValue, hv, Sem.run_bind, Sem.run_pure, Result.andThen_ok, invoke]
          have harr : (List.map a.eval c.args.toList).toArray = Array.map a.eval c.args := by apply Array.ext'; simp
          rw [harr] at hy
          simpa using hy
        refine wpIn_round hF (by simp [ho]) hrun (RoundIn.wide hF hround) ?_
        rintro e' w'' ⟨v, h', tv, β', rfl, hk, hrel, ht, hg⟩
        exact ⟨v, rfl, _, _, hk, hrel.put _ _ _ ht, (grown_ext hg _).trans (Ext.put _ _ _ _)⟩
      · simp at ee
    · rename_i x name hc
      split at ee
      rotate_left
      · simp at ee
      rename_i t av hx
      split at ee
      rotate_left
      · simp at ee
      rename_i fid hm
      obtain ⟨u, hv, hu⟩ := h.ev1 hx
      have hargs : All2 (TV.R w (C.N s.heap β w) (C.fresh s.heap β w) β) (.one av :: c.args.toList.map s.ev) (u :: c.args.toList.map a.eval) := ⟨hu, call_args h c.args.toList⟩
      split at ee
      · rename_i d hd
        have hds := hΓ.inl _ d hd
        refine wpIn_enter hF (by simp [ho]) (f := fid) (args := (u :: c.args.toList.map a.eval).toArray) (w' := w) (invoke_run ho hc hv hm hds.1)
          (hds.2 C β Γ.yl R _ _ r s ee a w _ (hY.mono (CxLe.push C s a) ⟨[], by simp⟩) h hargs) ?_
        rintro e' w'' ⟨v, h', tv, β', rfl, hk, hr, ht, hg⟩
        exact ⟨v, rfl, _, _, hk, hr.put _ _ _ ht, (grown_ext hg _).trans (Ext.put _ _ _ _)⟩
      · split at ee
        · rename_i d hd
          have hd := hΓ.hd _ d hd
          unfold acallH at ee
          split at ee
          · simp at ee
          rename_i xx hxx
          obtain ⟨y, hy, ee⟩ := Option.bind_eq_some_iff.1 ee
          refine wpIn_enter hF (by simp [ho]) (f := fid) (args := (u :: c.args.toList.map a.eval).toArray) (w' := w) (invoke_run ho hc hv hm hd.1) (hd.2 xx y hy C s β a w _ _ h hargs hxx) ?_
          rintro e' w'' ⟨v, β', rfl, hr, ht, hg⟩
          exact ⟨v, rfl, _, _, ee, hr.put _ _ _ ht, (grown_ext hg _).trans (Ext.put _ _ _ _)⟩
        · obtain ⟨hcall, hs⟩ := acall_sound h hΓ hargs ee
          refine wpIn_enter hF (by simp [ho]) (f := fid) (args := (u :: c.args.toList.map a.eval).toArray) (w' := w) (invoke_run ho hc hv hm hcall) hs ?_
          rintro e' w'' ⟨v, tv, rfl, hk, hg, hr⟩
          obtain ⟨h2, mv⟩ := h.grew hg
          exact ⟨v, rfl, _, _, hk, h2.put _ _ _ hr, Ext.put _ _ _ _⟩
    · exact step_sound hF hΓ h ee
  · rename_i t x i ho
    split at ee
    · rename_i l len j hi
      exact rowi_step hF h ho hi ee
    · exact step_sound hF hΓ h ee
  · rename_i t m parts ho
    split at ee
    · rename_i e cs hi
      exact rowp_step hF h ho hi ee
    · exact step_sound hF hΓ h ee
  · exact step_sound hF hΓ h ee

theorem aopI_sound (hF : FW F) {Γ : Env} (hΓ : Γ.Sound P) (hY : YOK P C β Γ.yl) (h : Rel C s β a w) {ops : Array Oper} (e : aopI P Γ ops o s k = some r) :
    OpOK F n P ops o a w (After C s β (fun i => o.dst = some i ∨ ∃ j want, o.guard = some (j, want) ∧ gslot ops j = some i) k r) Q := by
  have wk : ∀ {s1 : AS} {β1 : List Bl} {a' : Act} {w' : World}, After C s β (fun i => o.dst = some i) k r a' w' → After C s β (fun i => o.dst = some i ∨ ∃ j want, o.guard = some (j, want) ∧ gslot ops j = some i) k r a' w' :=
    fun ⟨s', β', h1, h2, h3⟩ => ⟨s', β', h1, h2, h3.mono fun i hi => .inl hi⟩
  unfold aopI at e
  unfold OpOK
  split at e
  · rename_i hg
    have hw : Region.wanted o (yielded ops a.tmps) = true := by simp [Region.wanted, hg]
    rw [if_pos hw]
    have := stepI_sound (F := F) (n := n) (Q := Q) hF hΓ hY h e
    exact Oper.wpIn_mono (fun a' w' hh => wk (s1 := s) (β1 := β) hh) this
  · rename_i j want hg
    split at e
    · simp at e
    rename_i d hd
    have hyield : yielded ops a.tmps j = (match a.tmps.getD d undef with | .bool b => some b | _ => none) := by
      unfold gslot at hd
      cases ho : ops[j]? with
      | none => simp [ho] at hd
      | some oj =>
        simp only [ho] at hd
        unfold yielded
        simp [ho, hd]
        cases a.tmps[d]? with
        | none => rfl
        | some v => cases v <;> rfl
    split at e
    · rename_i b f hb
      obtain ⟨h1, hv⟩ := h.lit hb
      have hwant : Region.wanted o (yielded ops a.tmps) = (b == want) := by
        unfold Region.wanted
        rw [hg]
        simp only [hyield, hv]
        cases b <;> cases want <;> rfl
      have step : astepI P Γ (s.put (some d) (litTV b)) o k = some r → o.wpIn F n P a w (After C s β (fun i => o.dst = some i ∨ ∃ j want, o.guard = some (j, want) ∧ gslot ops j = some i) k r) Q := fun e => by
        have := stepI_sound (F := F) (n := n) (Q := Q) hF hΓ hY h1 e
        refine Oper.wpIn_mono (fun a' w' hh => ?_) this
        obtain ⟨s', β', g1, g2, g3⟩ := hh
        exact ⟨s', β', g1, g2, ((Ext.put s β (some d) (litTV b)).mono fun i hi => .inr ⟨j, want, hg, by rw [hd]; exact hi⟩).trans (g3.mono fun i hi => .inl hi)⟩
      have skip : k ((s.put (some d) (litTV b)).put o.dst undefTV) = some r → After C s β (fun i => o.dst = some i ∨ ∃ j want, o.guard = some (j, want) ∧ gslot ops j = some i) k r (a.put o.dst undef) w := fun e =>
        ⟨_, _, e, h1.put _ _ _ undefTV_R, ((Ext.put s β (some d) (litTV b)).mono fun i hi => .inr ⟨j, want, hg, by rw [hd]; exact hi⟩).trans ((Ext.put _ _ _ _).mono fun i hi => .inl hi)⟩
      rw [hwant]
      cases b <;> cases want
      · exact step e
      · exact skip e
      · exact skip e
      · exact step e
    · rename_i hb
      have hv : a.tmps.getD d undef = .tuple #[] := by
        obtain ⟨vs, hv, hvs⟩ := h.tm d _ hb
        match vs, hvs with
        | [], _ => exact hv
      have hwant : Region.wanted o (yielded ops a.tmps) = false := by
        unfold Region.wanted
        rw [hg]
        simp only [hyield, hv]
        rfl
      rw [hwant]
      exact ⟨_, _, e, h.put _ _ _ undefTV_R, (Ext.put _ _ _ _).mono fun i hi => .inl hi⟩
    · simp at e

theorem anil_sound (h : Rel C s β a w) {e n' : Bool} (he : anil P s o = some (e, n')) :
    o.guard = none ∧ (∀ c, o.op ≠ .defer c) ∧ ∃ b, (execOp a.eval o).run P w = .ok (.value (.bool b)) w ∧ (b = cond n' (!e) e ∨ b = n') := by
  unfold anil at he
  split at he
  · rename_i t x ty ho hg
    split at he
    · rename_i el q xs f ht hx
      simp only [Option.some.injEq, Prod.mk.injEq] at he
      obtain ⟨rfl, rfl⟩ := he
      obtain ⟨A, c, hv, hle, hA⟩ := h.ev1 hx
      refine ⟨hg, by simp [ho], A.isNone, ?_, ?_⟩
      · have hc : a.eval (.const (.slice none 0 0)) = .slice none 0 0 := rfl
        have hv : a.eval x = .slice A (List.length xs) c := by simpa using hv
        simp only [execOp, ho, hv, hc]
        simp [eqGuard, binOp, run_equal_slice_nil w t el A _ c (aelem_some ht)]
      · cases A with
        | none =>
          left
          rcases hA with hA | ⟨b, o', es, hA, _⟩
          · simp [hA]
          · simp at hA
        | some _ => right; rfl
    · rename_i el l ht hx
      split at he
      rotate_left
      · simp at he
      rename_i T q xs fr hob
      simp only [Option.some.injEq, Prod.mk.injEq] at he
      obtain ⟨rfl, rfl⟩ := he
      obtain ⟨r, A, c, hr, hv, hle, hsl⟩ := h.ev1 hx
      obtain ⟨f, b, hf, hb, hn, _⟩ := h.obj hob (by simp)
      rw [hr] at hb; cases hb
      refine ⟨hg, by simp [ho], A.isNone, ?_, ?_⟩
      · have hc : a.eval (.const (.slice none 0 0)) = .slice none 0 0 := rfl
        simp only [execOp, ho, hv, hc]
        simp [eqGuard, binOp, run_equal_slice_nil w t el A _ c (aelem_some ht)]
      · cases A with
        | none =>
          left
          rcases hsl with ⟨_, hA, _⟩ | ⟨hz, _⟩
          · simp [Bl.addr] at hA
          · have : List.length xs = 0 := by omega
            simp [this]
        | some _ => right; rfl
    · simp at he
  · rename_i t x ty ho hg
    split at he
    · rename_i el q xs f ht hx
      simp only [Option.some.injEq, Prod.mk.injEq] at he
      obtain ⟨rfl, rfl⟩ := he
      obtain ⟨A, c, hv, hle, hA⟩ := h.ev1 hx
      refine ⟨hg, by simp [ho], !A.isNone, ?_, ?_⟩
      · have hc : a.eval (.const (.slice none 0 0)) = .slice none 0 0 := rfl
        have hv : a.eval x = .slice A (List.length xs) c := by simpa using hv
        simp only [execOp, ho, hv, hc]
        simp [eqGuard, binOp, run_equal_slice_nil w t el A _ c (aelem_some ht)]
      · cases A with
        | none =>
          left
          rcases hA with hA | ⟨b, o', es, hA, _⟩
          · simp [hA]
          · simp at hA
        | some _ => right; rfl
    · rename_i el l ht hx
      split at he
      rotate_left
      · simp at he
      rename_i T q xs fr hob
      simp only [Option.some.injEq, Prod.mk.injEq] at he
      obtain ⟨rfl, rfl⟩ := he
      obtain ⟨r, A, c, hr, hv, hle, hsl⟩ := h.ev1 hx
      obtain ⟨f, b, hf, hb, hn, _⟩ := h.obj hob (by simp)
      rw [hr] at hb; cases hb
      refine ⟨hg, by simp [ho], !A.isNone, ?_, ?_⟩
      · have hc : a.eval (.const (.slice none 0 0)) = .slice none 0 0 := rfl
        simp only [execOp, ho, hv, hc]
        simp [eqGuard, binOp, run_equal_slice_nil w t el A _ c (aelem_some ht)]
      · cases A with
        | none =>
          left
          rcases hsl with ⟨_, hA, _⟩ | ⟨hz, _⟩
          · simp [Bl.addr] at hA
          · have : List.length xs = 0 := by omega
            simp [this]
        | some _ => right; rfl
    · simp at he
  · simp at he

theorem amnz_some {Γ : Env} {e : TypeId} {n : Int} (hm : amnz Γ s o = some (e, n)) : o.guard = none ∧ ∃ c f t x, o.op = .call c ∧ c.callee = .value (.func f) ∧ Γ.mnz f = some (t, e) ∧ c.args.toList = [x] ∧ ∃ fz, s.ev x = .one (.dat (.int .i64) n fz) := by
  unfold amnz at hm
  split at hm
  rotate_left
  · simp at hm
  rename_i c ho hg
  split at hm
  rotate_left
  · simp at hm
  rename_i f hc
  split at hm
  rotate_left
  · simp at hm
  rename_i t e' x h1 h2
  split at hm
  rotate_left
  · simp at hm
  rename_i n' fz hx
  simp only [Option.some.injEq, Prod.mk.injEq] at hm
  obtain ⟨rfl, rfl⟩ := hm
  exact ⟨hg, c, f, t, x, ho, hc, h1, h2, fz, hx⟩

/-- A new row of cells that the call owns. -/
theorem vec_after (h : Rel C s β a w) {e : TypeId} {q : K} {xs : List q.den} {fr : Bool} {mid post : List Value} {cap : Nat}
    (hrow : rows (q.rd w (if fr then C.fresh s.heap β w else C.N s.heap β w)) xs mid) (hcap : mid.length + post.length = cap * q.size) (hle : xs.length ≤ cap)
    (ee : k (s.made false o.dst e q xs fr) = some r) : After C s β (fun i => o.dst = some i) k r (a.put o.dst (.slice (some ⟨w.heap.size, 0, none⟩) xs.length cap)) (w.alloc (.cells (mid ++ post).toArray e)) := by
  have hnew : (w.alloc (.cells (mid ++ post).toArray e)).heap[w.heap.size]? = some (.cells (mid ++ post).toArray e) := heap_alloc_new w _
  obtain ⟨h2, mv⟩ := h.push (Grew.alloc w (.cells (mid ++ post).toArray e)) (.vec e q xs fr) ⟨w.heap.size, 0, q.size, xs.length, cap, true, none⟩ (fun b hb => by simp only [AObj.occ, if_true, List.mem_singleton] at hb; subst hb; simp)
    (fun mv hN hNf => by
      refine ⟨rfl, rfl, hle, ?_⟩
      simp only [if_true]
      refine ⟨[], mid, post, by rw [hnew]; simp, rfl, ?_, hcap⟩
      refine rows_weak (fun b hb => ?_) (fun b hb => ?_) hrow
      · refine (Grew.alloc w _).block b ?_
        cases fr
        · exact hb.2.1
        · exact hb.2.1
      · cases fr
        · exact hN b hb
        · exact hNf b hb)
  refine ⟨_, _, ee, h2.put _ _ _ ?_, (Ext.push _ s β _ _).trans (Ext.put _ _ _ _)⟩
  exact ⟨⟨w.heap.size, 0, q.size, xs.length, cap, true, none⟩, _, cap, by rw [← h.bsize]; simp, rfl, hle, .inl ⟨rfl, by simp [Bl.addr], by simp⟩⟩

/-- The slots that a region's operations write. -/
def rdst (ops : Array Oper) (i : Nat) : Prop := ∃ o ∈ ops, o.dst = some i

theorem aops_sound (hF : FW F) {Γ : Env} (hΓ : Γ.Sound P) {ops : Array Oper} : ∀ (l : List Oper) (i : Nat), ops.toList.drop i = l → ∀ {s : AS} {β : List Bl} {a : Act} {w : World} {k : AS → Option R}, YOK P C β Γ.yl → Rel C s β a w → aops P Γ ops l s k = some r →
    (∀ a' w', After C s β (rdst ops) k r a' w' → Q .normal a' w') → wpOpsIn F n P ops Q (List.range' i l.length) a w
  | [], i, hl, s, β, a, w, k, hY, h, e, hQ => hQ a w ⟨s, β, e, h, Ext.refl _ _ _⟩
  | o :: l, i, hl, s, β, a, w, k, hY, h, e, hQ => by
    have ho : ops[i]? = some o := by
      have : (ops.toList.drop i)[0]? = some o := by rw [hl]; rfl
      simpa using this
    have hl' : ops.toList.drop (i + 1) = l := by
      have : (ops.toList.drop i).drop 1 = l := by rw [hl]; rfl
      rwa [List.drop_drop] at this
    have hmem : ∀ (j : Nat) (oj : Oper), ops[j]? = some oj → ∀ d, oj.dst = some d → rdst ops d := fun j oj hj d hd => ⟨oj, Array.mem_of_getElem? hj, hd⟩
    unfold aops at e
    split at e
    · rename_i ee nn hnil
      obtain ⟨e1, e2⟩ := both_some e
      obtain ⟨hg, hd, b, hrun, hb⟩ := anil_sound h hnil
      have hw : Region.wanted o (yielded ops a.tmps) = true := by simp [Region.wanted, hg]
      have goOn : ∀ b' : Bool, b = b' → aops P Γ ops l (s.put o.dst (.one (.dat .bool b' true))) k = some r → wpOpsIn F n P ops Q (List.range' i (o :: l).length) a w := by
        rintro b' rfl e'
        have h1 : Rel C (s.put o.dst (.one (.dat .bool b true))) β (a.put o.dst (.bool b)) w := h.put _ _ _ (by simp [TV.R, AV.R, K.rd])
        simp only [List.length_cons, List.range'_succ, wpOpsIn, ho]
        rw [if_pos hw]
        refine wpIn_value hF hd hrun (aops_sound hF hΓ l (i + 1) hl' hY h1 e' ?_)
        rintro a'' w'' ⟨s'', β'', q1, q2, q3⟩
        exact hQ a'' w'' ⟨s'', β'', q1, q2, ((Ext.put s β o.dst _).mono fun d hd => hmem i o ho d hd).trans q3⟩
      rcases hb with hb | hb
      · exact goOn _ hb e1
      · exact goOn _ hb e2
    split at e
    · rename_i e0 n0 hmz
      obtain ⟨q0, e1⟩ := gd_some e; clear e
      obtain ⟨q1, e⟩ := gd_some e1; clear e1
      obtain ⟨hg, c, f, t, x, hop, hcal, hmzf, hargs, fz, hx⟩ := amnz_some hmz
      have hw : Region.wanted o (yielded ops a.tmps) = true := by simp [Region.wanted, hg]
      simp only [List.length_cons, List.range'_succ, wpOpsIn, ho]
      rw [if_pos hw]
      obtain ⟨ht, hrunf⟩ := hΓ.mnz f t e0 hmzf
      obtain ⟨m, rfl⟩ : ∃ m : Nat, n0 = m := ⟨n0.toNat, by omega⟩
      obtain ⟨lz, hr, hle⟩ := bytes_run (P := P) w #[] t e0 ht m (by omega)
      have hex : (execOp a.eval o).run P w = .ok (.value (.slice (some ⟨w.heap.size, 0, none⟩) (lz.take m).length lz.length)) (w.drew.drew.alloc (.cells (((lz.take m).map (Value.int .u8)) ++ ((lz.drop m).map (Value.int .u8))).toArray e0)) := by
        have hax : c.args.map a.eval = #[.int .i64 m] := by
          apply Array.ext'
          rw [Array.toList_map, hargs]
          simp [h.evInt hx]
        have hlen : (lz.take m).length = m := by simp; omega
        rw [hlen, ← List.map_append, List.take_append_drop]
        simp only [execOp, hop, resolve, hcal, Sem.run_bind, Act.eval, Deferred.ofValue, Sem.run_pure, Result.andThen_ok, invoke, Array.append_empty]
        rw [show Array.map a.eval c.args = #[.int .i64 m] from hax, hrunf, Array.empty_append, hr]
        rfl
      have e := anyBytes_some e (xs := lz.take m) (by simp; omega)
      obtain ⟨h2, _⟩ := h.grew ((Grew.drew w).trans (Grew.drew w.drew))
      have hrow : rows ((K.int .u8).rd w.drew.drew (if true then C.fresh s.heap β w.drew.drew else C.N s.heap β w.drew.drew)) (lz.take m) ((lz.take m).map (Value.int .u8)) := by
        generalize lz.take m = l0
        induction l0 with
        | nil => rfl
        | cons y l0 ih => exact ⟨[.int .u8 y], _, rfl, rfl, ih⟩
      refine wpIn_value hF (by simp [hop]) hex ?_
      obtain ⟨s', β', g1, g2, g3⟩ := vec_after h2 (e := e0) (q := .int .u8) (xs := lz.take m) (fr := true) (mid := (lz.take m).map (Value.int .u8)) (post := (lz.drop m).map (Value.int .u8)) (cap := lz.length) hrow (by rw [List.length_map, List.length_map, ← List.length_append, List.take_append_drop]; simp [K.size]) (by rw [List.length_take]; exact Nat.min_le_right _ _) (o := o) (k := fun s' => aops P Γ ops l s' k) e
      refine aops_sound hF hΓ l (i + 1) hl' (hY.mono (CxLe.refl _) g3.bx) g2 g1 ?_
      rintro a'' w'' ⟨s'', β'', q1, q2, q3⟩
      exact hQ a'' w'' ⟨s'', β'', q1, q2, (g3.mono fun d hd => hmem i o ho d hd).trans q3⟩
    have hs := aopI_sound (F := F) (n := n) (Q := Q) hF hΓ hY h e
    have next : ∀ a' w', After C s β (fun i => o.dst = some i ∨ ∃ j want, o.guard = some (j, want) ∧ gslot ops j = some i) (fun s' => aops P Γ ops l s' k) r a' w' → wpOpsIn F n P ops Q (List.range' (i + 1) l.length) a' w' := by
      rintro a' w' ⟨s', β', g1, g2, g3⟩
      have g3' : Ext (rdst ops) s s' β β' := g3.mono fun d hd => by
        rcases hd with hd | ⟨j, want, _, hj⟩
        · exact hmem i o ho d hd
        · unfold gslot at hj
          cases hoj : ops[j]? with
          | none => simp [hoj] at hj
          | some oj => simp only [hoj] at hj; exact hmem j oj hoj d hj
      refine aops_sound hF hΓ l (i + 1) hl' (hY.mono (CxLe.refl _) g3.bx) g2 g1 ?_
      rintro a'' w'' ⟨s'', β'', q1, q2, q3⟩
      exact hQ a'' w'' ⟨s'', β'', q1, q2, g3'.trans q3⟩
    simp only [List.length_cons, List.range'_succ, wpOpsIn, ho]
    unfold OpOK at hs
    split
    · rename_i hw
      rw [if_pos hw] at hs
      exact Oper.wpIn_mono next hs
    · rename_i hw
      rw [if_neg hw] at hs
      exact ⟨fun f _ => hF.fn f, next _ _ hs⟩

theorem region_sound (hF : FW F) {Γ : Env} (hΓ : Γ.Sound P) (hY : YOK P C β Γ.yl) {id : Nat} {ops : Array Oper} (h : Rel C s β a w) (e : aops P Γ ops ops.toList s k = some r)
    (hQ : ∀ a' w', After C s β (rdst ops) k r a' w' → Q .normal a' w') : (Code.region id ops false).wpIn F n P Q a w := by
  refine wpIn_region ?_
  have := aops_sound (n := n) (Q := Q) hF hΓ ops.toList 0 rfl hY h e hQ
  simpa [List.range_eq_range'] using this
end
end Go.Proofs.AM
end

section
/- Loops as functions; states told by data. -/
namespace Go.Proofs.AM
open Go Go.RowKit

/-! ### a loop's function -/
def iterM {X E : Type} (f : X → Option (X ⊕ E)) : Nat → X → Option E
  | 0, _ => none
  | n + 1, x => match f x with
    | some (.inl y) => iterM f n y
    | some (.inr e) => some e
    | none => none

theorem iterM_mono {X E : Type} {f : X → Option (X ⊕ E)} {e : E} : ∀ {n : Nat} {x : X}, iterM f n x = some e → ∀ m, n ≤ m → iterM f m x = some e
  | 0, _, h, _, _ => by simp [iterM] at h
  | n + 1, x, h, m, hm => by
    obtain ⟨m, rfl⟩ : ∃ k, m = k + 1 := ⟨m - 1, by omega⟩
    unfold iterM at h ⊢
    split at h
    · exact iterM_mono h m (by omega)
    · exact h
    · simp at h

open Classical in
noncomputable def loopM {X E : Type} (f : X → Option (X ⊕ E)) (x : X) : Option E :=
  if h : ∃ n, (iterM f n x).isSome = true then iterM f (Classical.choose h) x else none

theorem loopM_of {X E : Type} {f : X → Option (X ⊕ E)} {n : Nat} {x : X} {e : E} (h : iterM f n x = some e) : loopM f x = some e := by
  unfold loopM
  have hx : ∃ n, (iterM f n x).isSome = true := ⟨n, by rw [h]; rfl⟩
  rw [dif_pos hx]
  have hc := Classical.choose_spec hx
  obtain ⟨e', he⟩ := Option.isSome_iff_exists.1 hc
  have h1 := iterM_mono h (max n (Classical.choose hx)) (by omega)
  have h2 := iterM_mono he (max n (Classical.choose hx)) (by omega)
  rw [he, ← h2, h1]

theorem loopM_some {X E : Type} {f : X → Option (X ⊕ E)} {x : X} {e : E} (h : loopM f x = some e) : ∃ n, iterM f n x = some e := by
  unfold loopM at h
  split at h
  · exact ⟨_, h⟩
  · simp at h

/-- One round. -/
theorem loopM_eq {X E : Type} (f : X → Option (X ⊕ E)) (x : X) : loopM f x = match f x with
    | some (.inl y) => loopM f y
    | some (.inr e) => some e
    | none => none := by
  cases hx : f x with
  | none =>
    cases h : loopM f x with
    | none => rfl
    | some e =>
      obtain ⟨n, hn⟩ := loopM_some h
      cases n with
      | zero => simp [iterM] at hn
      | succ n => simp [iterM, hx] at hn
  | some y =>
    cases y with
    | inr e => exact loopM_of (n := 1) (by simp [iterM, hx])
    | inl y =>
      show loopM f x = loopM f y
      cases h : loopM f y with
      | some e =>
        obtain ⟨n, hn⟩ := loopM_some h
        exact loopM_of (n := n + 1) (by simp [iterM, hx, hn])
      | none =>
        cases h' : loopM f x with
        | none => rfl
        | some e =>
          obtain ⟨n, hn⟩ := loopM_some h'
          cases n with
          | zero => simp [iterM] at hn
          | succ n =>
            simp only [iterM, hx] at hn
            rw [loopM_of hn] at h; simp at h

/-! ### tuples of data -/
@[reducible] def KU : List K → Type
  | [] => Unit
  | k :: ks => k.den × KU ks

@[reducible] def KT : List K → Type
  | [] => Unit
  | k :: ks => match ks with
    | [] => k.den
    | k' :: r => k.den × KT (k' :: r)

def KT.up : {ks : List K} → KT ks → KU ks
  | [], _ => ()
  | [_], x => (x, ())
  | _ :: k' :: r, x => (x.1, KT.up (ks := k' :: r) x.2)

def KT.down : {ks : List K} → KU ks → KT ks
  | [], _ => ()
  | [_], x => x.1
  | _ :: k' :: r, x => (x.1, KT.down (ks := k' :: r) x.2)

theorem KT.up_down : ∀ {ks : List K} (x : KU ks), KT.up (KT.down x) = x
  | [], _ => rfl
  | [_], _ => rfl
  | _ :: k' :: r, x => by
    show (x.1, KT.up (KT.down (ks := k' :: r) x.2)) = x
    rw [KT.up_down (ks := k' :: r) x.2]

/-! ### what of a state is told by data -/
inductive SK where
  | d (agg : Bool) (k : K) (fr : Bool)
  | v (T : TypeId) (k : K) (fr : Bool)
  | np

@[reducible] def SK.kind : SK → K
  | .d _ k _ => k
  | .v _ k _ => .sl k
  | .np => .unit

inductive Item where
  | slot (i : Nat) (sk : SK)
  | cell (l j : Nat) (sk : SK)
  | vec (l : Nat) (T : TypeId) (k : K) (fr : Bool)
  | map (l : Nat) (k v : Bool × K) (fr : Bool)
  | lp (l : Nat) (s : LS)
  | pbox (i : Nat) (T : TypeId) (n : Nat)
  | pcell (i j m : Nat) (sk : SK)

@[reducible] def Item.kind : Item → K
  | .slot _ sk => sk.kind
  | .cell _ _ sk => sk.kind
  | .vec _ _ k _ => .sl k
  | .map _ k v _ => .sl (.pair k.2 v.2)
  | .lp _ _ => .unit
  | .pbox _ _ _ => .unit
  | .pcell _ _ _ sk => sk.kind

abbrev LA := List Item
def LA.kinds (la : LA) : List K := la.map Item.kind

/-- An owned row of cells behind a value. -/
def decV (h : Heap) (T : TypeId) (k : K) (fr : Bool) : AV → Option (List k.den × Option Nat)
  | .nilsl => some ([], none)
  | .vf l => match hat h l with
    | .vec T' k' xs f => if T' = T ∧ (!fr || f) = true then (if e : k' = k then some (e ▸ xs, some l) else none) else none
    | _ => none
  | _ => none

def decS (h : Heap) : (sk : SK) → TV → Option (sk.kind.den × Option Nat)
  | .d agg k fr, t => match (match agg, t with
      | true, .agg cs => K.of h false k cs
      | false, .one a => K.of h false k [a]
      | _, _ => none) with
    | some (x, f) => if (!fr || f) = true then some (x, none) else none
    | none => none
  | .v T k fr, t => match t with
    | .one a => decV h T k fr a
    | _ => none
  | .np, t => match t with
    | .one .nilp => some ((), none)
    | _ => none

def decI (s : AS) : (it : Item) → Option (it.kind.den × Option Nat)
  | .slot i sk => match s.tmps[i]? with
    | some t => decS s.heap sk t
    | none => none
  | .cell l j sk => match hat s.heap l with
    | .box _ cs => match cs[j]? with
      | some c => decS s.heap sk (.one c)
      | none => none
    | _ => none
  | .vec l T k fr => match hat s.heap l with
    | .vec T' k' xs f => if T' = T ∧ (!fr || f) = true then (if e : k' = k then some (e ▸ xs, none) else none) else none
    | _ => none
  | .map l k v fr => match hat s.heap l with
    | .map k' v' es f => if (!fr || f) = true then (if e : k' = k then (if e' : v' = v then some (e ▸ e' ▸ es, none) else none) else none) else none
    | _ => none
  | .lp l st => match hat s.heap l with
    | .lp st' => if st' = st then some ((), none) else none
    | _ => none
  | .pbox i T n => match s.tmps[i]? with
    | some (.one (.ptr l 0)) => match hat s.heap l with
      | .box T' cs => if T' = T ∧ cs.length = n then some ((), some l) else none
      | _ => none
    | _ => none
  | .pcell i j _ sk => match s.tmps[i]? with
    | some (.one (.ptr l 0)) => match hat s.heap l with
      | .box _ cs => match cs[j]? with
        | some c => decS s.heap sk (.one c)
        | none => none
      | _ => none
    | _ => none

/-- Whether an item makes an object of its own. -/
def Item.owns : Item → Bool
  | .slot _ (.v ..) | .cell _ _ (.v ..) | .pcell _ _ _ (.v ..) | .pbox _ _ _ => true
  | _ => false

/-- The kind of the cells of a row that an item brings. -/
def Item.rk : Item → K
  | .slot _ (.v _ k _) | .cell _ _ (.v _ k _) | .pcell _ _ _ (.v _ k _) => k
  | _ => .unit

/-- The data, and where the owned rows of cells lie ('none': nowhere yet). -/
def decL (s : AS) : (la : List Item) → Option (KU (LA.kinds la) × List (Option Nat))
  | [] => some ((), [])
  | it :: r => match decI s it, decL s r with
    | some (x, l), some (y, ls) => some ((x, y), if it.owns then l :: ls else ls)
    | _, _ => none

def encS (n : Nat) : (sk : SK) → sk.kind.den → TV
  | .d agg k fr, x => (shapeTV agg (K.cells fr k x)).getD (.one .junk)
  | .v _ _ _, _ => .one (.vf n)
  | .np, _ => .one .nilp

def encO (hd : Bool) : (sk : SK) → sk.kind.den → Heap
  | .d _ _ _, _ => []
  | .v T k fr, x => [(!hd, .vec T k x fr)]
  | .np, _ => []

def encI (hd : Bool) : (it : Item) → it.kind.den → List TV × Heap → List TV × Heap
  | .slot i sk, x, (t, h) => (t.set i (encS h.length sk x), h ++ encO hd sk x)
  | .cell l j sk, x, (t, h) => match hat h l with
    | .box T cs => (t, h.set l (!hd, .box T (cs.set j (match encS h.length sk x with | .one a => a | _ => .junk))) ++ encO hd sk x)
    | _ => (t, h)
  | .vec l T k fr, x, (t, h) => (t, h.set l (!hd, .vec T k x fr))
  | .map l k v fr, x, (t, h) => (t, h.set l (!hd, .map k v x fr))
  | .lp l st, _, (t, h) => (t, h.set l (!hd, .lp st))
  | .pbox i T n, _, (t, h) => (t.set i (.one (.ptr h.length 0)), h ++ [(!hd, .box T (List.replicate n .junk))])
  | .pcell i j m sk, x, (t, h) => match t[i]?, hat h m with
    | some (.one (.ptr m' 0)), .box T cs => if m' = m then (t, h.set m (!hd, .box T (cs.set j (match encS h.length sk x with | .one a => a | _ => .junk))) ++ encO hd sk x) else (t, h ++ encO hd sk x)
    | _, _ => (t, h ++ encO hd sk x)

def encL (hd : Bool) : (la : List Item) → KU (LA.kinds la) → List TV × Heap → List TV × Heap
  | [], _, th => th
  | it :: r, x, th => encL hd r x.2 (encI hd it x.1 th)

/-- The boxes of which cells are told. -/
def boxesOf : List Item → List Nat
  | [] => []
  | .cell l _ _ :: r => l :: boxesOf r
  | _ :: r => boxesOf r

def vecsOf : List Item → List Nat
  | [] => []
  | .vec l _ _ _ :: r => l :: vecsOf r
  | .map l _ _ _ :: r => l :: vecsOf r
  | .lp l _ :: r => l :: vecsOf r
  | .pcell _ _ m _ :: r => m :: vecsOf r
  | _ :: r => vecsOf r

/-- The objects that are told as a whole. -/
def wholeOf : List Item → List Nat
  | [] => []
  | .vec l _ _ _ :: r => l :: wholeOf r
  | .map l _ _ _ :: r => l :: wholeOf r
  | .lp l _ :: r => l :: wholeOf r
  | _ :: r => wholeOf r

/-- Where the boxes lie anew of which pointers are told. -/
def pcsOf : List Item → List Nat
  | [] => []
  | .pcell _ _ m _ :: r => m :: pcsOf r
  | _ :: r => pcsOf r

theorem vecs_cases {l : Nat} : ∀ {la : List Item}, l ∈ vecsOf la → l ∈ wholeOf la ∨ l ∈ pcsOf la
  | it :: r, h => by
    cases it <;> simp only [vecsOf, wholeOf, pcsOf, List.mem_cons] at h ⊢ <;>
      first
        | exact vecs_cases h
        | (rcases h with h | h
           · first | exact .inl (.inl h) | exact .inr (.inl h)
           · rcases vecs_cases h with h | h
             · first | exact .inl (.inr h) | exact .inl h
             · first | exact .inr (.inr h) | exact .inr h)

theorem wholeOf_sub {l : Nat} : ∀ {la : List Item}, l ∈ wholeOf la → l ∈ vecsOf la
  | it :: r, h => by
    cases it <;> simp only [vecsOf, wholeOf, List.mem_cons] at h ⊢ <;>
      first
        | exact wholeOf_sub h
        | exact .inr (wholeOf_sub h)
        | (rcases h with h | h
           · exact .inl h
           · exact .inr (wholeOf_sub h))

theorem pcsOf_sub {l : Nat} : ∀ {la : List Item}, l ∈ pcsOf la → l ∈ vecsOf la
  | it :: r, h => by
    cases it <;> simp only [vecsOf, pcsOf, List.mem_cons] at h ⊢ <;>
      first
        | exact pcsOf_sub h
        | exact .inr (pcsOf_sub h)
        | (rcases h with h | h
           · exact .inl h
           · exact .inr (pcsOf_sub h))

def junkAll (D : List Nat) (t : List TV) : List TV := D.foldl (fun t i => t.set i (.one .junk)) t

def AObj.clear : AObj → AObj
  | .box T cs => .box T (cs.map fun _ => .junk)
  | .vec _ _ _ _ => .dead
  | .map _ _ _ _ => .dead
  | .lp _ => .dead
  | o => o

/-- An object that is told as a whole. -/
def AObj.whole : AObj → Bool
  | .vec _ _ _ _ => true
  | .map _ _ _ _ => true
  | .lp _ => true
  | _ => false

def AObj.isMark : AObj → Bool
  | .mark => true
  | _ => false

/-- The objects ahead: those that go ('ks'), those that are told anew ('bs'), the rest. 'hd': at a loop's head no object has turned yet. -/
def baseObj (hd : Bool) (ks bs : List Nat) (o : Bool × AObj) (l : Nat) : Bool × AObj :=
  if ks.contains l then (!hd, .dead) else if bs.contains l then (!hd, o.2.clear) else (if hd then o.1 && o.2.isMark else o.1, o.2)

def baseHeapFrom (hd : Bool) (ks bs : List Nat) : Heap → Nat → Heap
  | [], _ => []
  | o :: h, l => baseObj hd ks bs o l :: baseHeapFrom hd ks bs h (l + 1)

/-- A state, told by data over the state that it comes of. -/
def enc (hd : Bool) (s0 : AS) (D : List Nat) (ks : List Nat) (la : List Item) (x : KT (LA.kinds la)) : AS :=
  let th := encL hd la (KT.up x) (junkAll D s0.tmps, baseHeapFrom hd ks (boxesOf la ++ vecsOf la) s0.heap 0)
  { s0 with tmps := th.1, heap := th.2 }

def slotsOf : List Item → List Nat
  | [] => []
  | .slot i _ :: r => i :: slotsOf r
  | .pbox i _ _ :: r => i :: slotsOf r
  | _ :: r => slotsOf r

def nodupO : List (Option Nat) → Bool
  | [] => true
  | none :: r => nodupO r
  | some l :: r => !r.contains (some l) && nodupO r

/-- Whether a state may be told so over the state that it comes of. -/
def okL (h0 h : Heap) (D ks : List Nat) (la : List Item) (ls : List (Option Nat)) : Bool :=
  (slotsOf la).all D.contains &&
  (boxesOf la).all (fun l => decide (l < h0.length) && match hat h0 l, hat h l with
    | .box T cs, .box T' cs' => T == T' && cs.length == cs'.length
    | _, _ => false) &&
  (wholeOf la).all (fun l => decide (l < h0.length) && (hat h0 l).whole) && (pcsOf la).all (fun l => decide (h0.length ≤ l)) &&
  ls.all (fun | none => true | some l => ks.contains l || decide (h0.length ≤ l)) &&
  nodupO ls && ks.all (fun l => !(hat h0 l).isMark && !(boxesOf la ++ vecsOf la).contains l)

/-- Whether all but the objects that are told have stayed as they were at the head. -/
def unchFrom (skip : List Nat) : Heap → Heap → Nat → Bool
  | [], _, _ => true
  | _ :: _, [], _ => false
  | o :: h0, p :: h, l => (skip.contains l || !p.1 || (o.1 && o.2.isMark)) && unchFrom skip h0 h (l + 1)
end Go.Proofs.AM
end

section
/- A state told by data is a state. -/
namespace Go.Proofs.AM
open Go Go.RowKit

theorem All2.left {α β : Type} {R : α → β → Prop} : ∀ {l : List α} {m : List β}, All2 R l m → ∀ a ∈ l, ∃ b, R a b
  | [], _, _, a, h => by simp at h
  | x :: l, y :: m, h, a, ha => by
    rcases List.mem_cons.1 ha with rfl | ha
    · exact ⟨y, h.1⟩
    · exact All2.left h.2 a ha
  | _ :: _, [], h, _, _ => h.elim

/-! ### what a value names lies below -/
def AV.lt (n : Nat) : AV → Prop
  | .ptr l _ | .vf l | .vw l _ _ | .vp l _ _ | .mp l | .yl l | .wk l => l < n
  | .fn _ caps => ∀ l ∈ caps, l < n
  | .ifc _ a => a.lt n
  | _ => True

theorem AV.R_lt {w : World} {N Nf : Nat → Prop} {β : List Bl} {x : AV} {v : Value} (h : x.R w N Nf β v) : x.lt β.length := by
  have len : ∀ {l : Nat} {r : Bl}, β[l]? = some r → l < β.length := fun e => (List.getElem?_eq_some_iff.1 e).1
  induction x generalizing v with
  | junk => trivial
  | dat k y fr => trivial
  | nilsl => trivial
  | nilp => trivial
  | nilf => trivial
  | ro k y off fr => trivial
  | ptr l off => obtain ⟨r, hr, _⟩ := h; exact len hr
  | vf l => obtain ⟨r, _, _, hr, _⟩ := h; exact len hr
  | vw l off n => obtain ⟨r, _, _, hr, _⟩ := h; exact len hr
  | vp l i off => obtain ⟨r, hr, _⟩ := h; exact len hr
  | mp l => obtain ⟨r, hr, _⟩ := h; exact len hr
  | yl l => obtain ⟨r, hr, _⟩ := h; exact len hr
  | wk l => obtain ⟨r, hr, _⟩ := h; exact len hr
  | nili => trivial
  | ifc t a ih => obtain ⟨u, _, hu⟩ := h; exact ih hu
  | fn f caps =>
    obtain ⟨bs, _, hb⟩ := h
    intro l hl
    obtain ⟨b, r, hr, _⟩ := hb.left l hl
    exact len hr

theorem AV.R_pre {w : World} {N Nf : Nat → Prop} {β β' : List Bl} {n : Nat} (hβ : ∀ l, l < n → β'[l]? = β[l]?) {x : AV} {v : Value} (hl : x.lt n) (h : x.R w N Nf β v) : x.R w N Nf β' v := by
  induction x generalizing v with
  | junk => trivial
  | dat k y fr => exact h
  | nilsl => exact h
  | nilp => exact h
  | nilf => exact h
  | ro k y off fr => exact h
  | ptr l off => obtain ⟨r, hr, e⟩ := h; exact ⟨r, by rw [hβ l hl]; exact hr, e⟩
  | vf l => obtain ⟨r, A, c, hr, e⟩ := h; exact ⟨r, A, c, by rw [hβ l hl]; exact hr, e⟩
  | vw l off m => obtain ⟨r, A, c, hr, e⟩ := h; exact ⟨r, A, c, by rw [hβ l hl]; exact hr, e⟩
  | vp l i off => obtain ⟨r, hr, e⟩ := h; exact ⟨r, by rw [hβ l hl]; exact hr, e⟩
  | mp l => obtain ⟨r, hr, e⟩ := h; exact ⟨r, by rw [hβ l hl]; exact hr, e⟩
  | yl l => obtain ⟨r, hr, e⟩ := h; exact ⟨r, by rw [hβ l hl]; exact hr, e⟩
  | wk l => obtain ⟨r, hr, e⟩ := h; exact ⟨r, by rw [hβ l hl]; exact hr, e⟩
  | nili => exact h
  | ifc t a ih => obtain ⟨u, e, hu⟩ := h; exact ⟨u, e, ih hl hu⟩
  | fn f caps =>
    obtain ⟨bs, e, hb⟩ := h
    have hl : ∀ l ∈ caps, l < n := hl
    exact ⟨bs, e, hb.imp fun l hm b ⟨r, hr, e⟩ => ⟨r, by rw [hβ l (hl l hm)]; exact hr, e⟩⟩

def AllLt (n : Nat) (cs : List AV) : Prop := ∀ c ∈ cs, c.lt n

theorem All2.lt {w : World} {N Nf : Nat → Prop} {β : List Bl} : ∀ {cs : List AV} {vs : List Value}, All2 (AV.R w N Nf β) cs vs → AllLt β.length cs
  | [], [], _ => by simp [AllLt]
  | c :: cs, v :: vs, h => by
    intro x hx
    rcases List.mem_cons.1 hx with rfl | hx
    · exact AV.R_lt h.1
    · exact All2.lt h.2 x hx
  | [], _ :: _, h => h.elim
  | _ :: _, [], h => h.elim

theorem All2.pre {w : World} {N Nf : Nat → Prop} {β β' : List Bl} {n : Nat} (hβ : ∀ l, l < n → β'[l]? = β[l]?) : ∀ {cs : List AV} {vs : List Value}, AllLt n cs → All2 (AV.R w N Nf β) cs vs → All2 (AV.R w N Nf β') cs vs
  | [], [], _, _ => trivial
  | c :: cs, v :: vs, hl, h => ⟨AV.R_pre hβ (hl c (by simp)) h.1, All2.pre hβ (fun x hx => hl x (by simp [hx])) h.2⟩
  | [], _ :: _, _, h => h.elim
  | _ :: _, [], _, h => h.elim

def TV.lt (n : Nat) : TV → Prop
  | .one a => a.lt n
  | .agg cs => AllLt n cs
  | .tup cs => ∀ c ∈ cs, AllLt n c.2

theorem TV.R_lt {w : World} {N Nf : Nat → Prop} {β : List Bl} {t : TV} {v : Value} (h : t.R w N Nf β v) : t.lt β.length := by
  cases t with
  | one a => exact AV.R_lt h
  | agg cs => obtain ⟨vs, _, hc⟩ := h; exact hc.lt
  | tup cs =>
    obtain ⟨vs, _, hc⟩ := h
    intro c hm
    obtain ⟨v, hv⟩ := hc.left c hm
    match c, hv with
    | (true, l), ⟨us, _, hu⟩ => exact hu.lt
    | (false, [x]), hx => intro y hy; simp at hy; subst hy; exact AV.R_lt hx

theorem TV.R_pre {w : World} {N Nf : Nat → Prop} {β β' : List Bl} {n : Nat} (hβ : ∀ l, l < n → β'[l]? = β[l]?) {t : TV} {v : Value} (hl : t.lt n) (h : t.R w N Nf β v) : t.R w N Nf β' v := by
  cases t with
  | one a => exact AV.R_pre hβ hl h
  | agg cs => obtain ⟨vs, e, hc⟩ := h; exact ⟨vs, e, hc.pre hβ hl⟩
  | tup cs =>
    obtain ⟨vs, e, hc⟩ := h
    have hl : ∀ c ∈ cs, AllLt n c.2 := hl
    refine ⟨vs, e, hc.imp fun c hm v hv => ?_⟩
    have h0 := hl c hm
    match c, hv, h0 with
    | (true, l), ⟨us, e, hu⟩, h0 => exact ⟨us, e, hu.pre hβ h0⟩
    | (false, [x]), hx, h0 => exact AV.R_pre hβ (h0 x (by simp)) hx

def AObj.lt (n : Nat) : AObj → Prop
  | .box _ cs => AllLt n cs
  | .walk m _ _ _ _ _ _ => m < n
  | _ => True

theorem AObj.R_lt {w : World} {N Nf : Nat → Prop} {β : List Bl} {r : Bl} {o : AObj} (h : o.R w N Nf β r) : o.lt β.length := by
  cases o with
  | box T cs => obtain ⟨vs, _, _, hc⟩ := h; exact hc.lt
  | walk m k v es left cur fr => obtain ⟨l, ck, seen, rm, _, _, _, hm, _⟩ := h; exact (List.getElem?_eq_some_iff.1 hm).1
  | _ => trivial

theorem AObj.R_pre {w : World} {N Nf : Nat → Prop} {β β' : List Bl} {n : Nat} (hβ : ∀ l, l < n → β'[l]? = β[l]?) {r : Bl} {o : AObj} (hl : o.lt n) (h : o.R w N Nf β r) : o.R w N Nf β' r := by
  cases o with
  | box T cs => obtain ⟨vs, e, z, hc⟩ := h; exact ⟨vs, e, z, hc.pre hβ hl⟩
  | walk m k v es left cur fr => obtain ⟨l, ck, seen, rm, h1, h2, h3, hm, h4⟩ := h; exact ⟨l, ck, seen, rm, h1, h2, h3, by rw [hβ m hl]; exact hm, h4⟩
  | dead => exact h
  | vec T k xs fr => exact h
  | mark => exact h
  | lp s => exact h
  | map k v es fr => exact h

/-! ### a state of which less is known -/
section
variable {C : Cx} {s : AS} {β : List Bl} {a : Act} {w : World}

/-- An object of the new state: dead, or what the old one has at 'src' (or nothing yet). -/
def ObjOK (C : Cx) (s : AS) (β β' : List Bl) (w : World) (src : Nat → Option Nat) (j : Nat) (o : Bool × AObj) : Prop :=
  o.2 = .dead ∨ ∃ r, β'[j]? = some r ∧ o.2.R w (C.N s.heap β w) (C.fresh s.heap β w) β' r ∧
    (o.2.occ r = [] ∨ ∃ l o0, src j = some l ∧ s.heap[l]? = some o0 ∧ β[l]? = some r ∧ o.2.occ r = o0.2.occ r)

theorem Rel.mark_at (h : Rel C s β a w) {l : Nat} (hl : l ∈ s.marks) : s.heap[l]? = some (true, .mark) := by
  obtain ⟨bs, _, hb⟩ := h.defers
  obtain ⟨b, r, _, _, e⟩ := hb.left l hl
  exact e

theorem Rel.weaken (h : Rel C s β a w) (t : AS) (β' : List Bl) (src : Nat → Option Nat) (hlen : β'.length = t.heap.length) (htl : t.tmps.length = s.tmps.length) (hm : t.marks = s.marks)
    (hmk : ∀ l ∈ s.marks, t.heap[l]? = some (true, AObj.mark) ∧ β'[l]? = β[l]?)
    (htm : ∀ (i : Nat) (x : TV), t.tmps[i]? = some x → x.R w (C.N s.heap β w) (C.fresh s.heap β w) β' (a.tmps.getD i undef))
    (hob : ∀ (j : Nat) (o : Bool × AObj), t.heap[j]? = some o → ObjOK C s β β' w src j o)
    (hinj : ∀ (j j' l : Nat) (o o' : Bool × AObj), t.heap[j]? = some o → t.heap[j']? = some o' → o.2 ≠ .dead → o'.2 ≠ .dead → src j = some l → src j' = some l → j = j')
    (hfr : ∀ f ∈ C.frs, (∀ l ∈ f.marks, t.heap[l]? = some (true, AObj.mark) ∧ β'[l]? = β[l]?) ∧
      ∀ (i : Nat) (x : TV), f.tmps[i]? = some x → ∀ v, x.R w (C.N s.heap β w) (C.fresh s.heap β w) β v → x.R w (C.N s.heap β w) (C.fresh s.heap β w) β' v) : Rel C t β' a w := by
  have hfree : ∀ b, Free s.heap β b → Free t.heap β' b := by
    intro b hf j o r ho hr hx
    rcases hob j o ho with hd | ⟨r', hr', _, hc⟩
    · rw [hd] at hx; simp [AObj.occ] at hx
    · rw [hr] at hr'; cases hr'
      rcases hc with hc | ⟨l, o0, _, h1, h2, h3⟩
      · rw [hc] at hx; simp at hx
      · exact hf l o0 r h1 h2 (h3 ▸ hx)
  have hN : ∀ b, C.N s.heap β w b → C.N t.heap β' w b := fun b h => ⟨h.1, h.2.1, hfree b h.2.2⟩
  have hNf : ∀ b, C.fresh s.heap β w b → C.fresh t.heap β' w b := fun b h => ⟨h.1, h.2.1, hfree b h.2.2⟩
  have mv : ∀ (x : AV) (v : Value), x.R w (C.N s.heap β w) (C.fresh s.heap β w) β' v → x.R w (C.N t.heap β' w) (C.fresh t.heap β' w) β' v :=
    AV.R_mono (fun _ _ => rfl) hN (fun b h => Cx.fresh_N h) hNf (fun _ _ h => h)
  refine { defers := ?_, tsize := by rw [h.tsize, htl], tm := fun i x hx => TV.R_mono mv _ _ (htm i x hx), bsize := hlen, ob := ?_, occ := ?_, apart := ?_, keep := h.keep, frs := fun f hf => ?_ }
  · obtain ⟨bs, e, hb⟩ := h.defers
    rw [hm]
    exact ⟨bs, e, hb.imp fun l hl b ⟨r, e1, e2, e3⟩ => ⟨r, by rw [(hmk l hl).2]; exact e1, e2, (hmk l hl).1⟩⟩
  · intro j o r ho hr
    rcases hob j o ho with hd | ⟨r', hr', hR, _⟩
    · rw [hd]; trivial
    · rw [hr] at hr'; cases hr'
      exact AObj.R_mono mv (fun _ _ => rfl) hN (fun b h => Cx.fresh_N h) hNf (fun _ _ h => h) _ _ (fun _ _ => rfl) hR
  · intro j o r b ho hr hx
    rcases hob j o ho with hd | ⟨r', hr', _, hc⟩
    · rw [hd] at hx; simp [AObj.occ] at hx
    · rw [hr] at hr'; cases hr'
      rcases hc with hc | ⟨l, o0, _, h1, h2, h3⟩
      · rw [hc] at hx; simp at hx
      · exact h.occ l o0 r b h1 h2 (h3 ▸ hx)
  · intro j j' o o' r r' b ho hr ho' hr' hx hx'
    have ne : o.2 ≠ .dead := fun e => by rw [e] at hx; simp [AObj.occ] at hx
    have ne' : o'.2 ≠ .dead := fun e => by rw [e] at hx'; simp [AObj.occ] at hx'
    rcases hob j o ho with hd | ⟨r1, hr1, _, hc⟩
    · exact absurd hd ne
    rcases hob j' o' ho' with hd | ⟨r2, hr2, _, hc'⟩
    · exact absurd hd ne'
    rw [hr] at hr1; cases hr1
    rw [hr'] at hr2; cases hr2
    rcases hc with hc | ⟨l, o0, g1, g2, g3, g4⟩
    · rw [hc] at hx; simp at hx
    rcases hc' with hc' | ⟨l', o0', g1', g2', g3', g4'⟩
    · rw [hc'] at hx'; simp at hx'
    have := h.apart l l' o0 o0' r r' b g2 g3 g2' g3' (g4 ▸ hx) (g4' ▸ hx')
    subst this
    exact hinj j j' l o o' ho ho' ne ne' g1 g1'
  · have q := h.frs f hf
    obtain ⟨k1, k2⟩ := hfr f hf
    refine ⟨?_, q.tsize, fun i x hx => TV.R_mono mv _ _ (k2 i x hx _ (q.tm i x hx))⟩
    obtain ⟨bs, e, hb⟩ := q.defers
    exact ⟨bs, e, hb.imp fun l hl b ⟨r, e1, e2, e3⟩ => ⟨r, by rw [(k1 l hl).2]; exact e1, e2, (k1 l hl).1⟩⟩
end
end Go.Proofs.AM
end

section
/- Telling a state by data: that it is one. -/
namespace Go.Proofs.AM
open Go Go.RowKit

/-- The place of an owned row of cells: where it lay, or nowhere yet. -/
def recOf (β : List Bl) (k : K) : Option Nat → Option Bl
  | some l => β[l]?
  | none => some ⟨0, 0, k.size, 0, 0, false, none⟩

section
variable {C : Cx} {s : AS} {β β' : List Bl} {a : Act} {w : World}

theorem decV_some {h : Heap} {T : TypeId} {k : K} {fr : Bool} {x : AV} {xs : List k.den} {l : Option Nat} (e : decV h T k fr x = some (xs, l)) :
    (x = .nilsl ∧ xs = [] ∧ l = none) ∨ ∃ m f, x = .vf m ∧ l = some m ∧ hat h m = .vec T k xs f ∧ (fr = true → f = true) := by
  unfold decV at e
  split at e
  · simp only [Option.some.injEq, Prod.mk.injEq] at e
    exact .inl ⟨rfl, e.1.symm, e.2.symm⟩
  · rename_i m
    split at e
    · rename_i T' k' xs' f ho
      split at e
      · rename_i hc
        split at e
        · rename_i hk
          subst hk
          simp only [Option.some.injEq, Prod.mk.injEq] at e
          obtain ⟨rfl, rfl⟩ := e
          obtain ⟨rfl, hf⟩ := hc
          exact .inr ⟨m, f, rfl, rfl, ho, fun hfr => by simpa [hfr] using hf⟩
        · simp at e
      · simp at e
    · simp at e
  · simp at e

theorem decS_enc (h : Rel C s β a w) {sk : SK} {t : TV} {v : Value} (ht : t.R w (C.N s.heap β w) (C.fresh s.heap β w) β v) {x : sk.kind.den} {l : Option Nat} (e : decS s.heap sk t = some (x, l)) (m : Nat)
    (hm : ∀ T k fr, sk = .v T k fr → β'[m]? = recOf β k l) : (encS m sk x).R w (C.N s.heap β w) (C.fresh s.heap β w) β' v := by
  cases sk with
  | d agg k fr =>
    simp only [decS] at e
    split at e
    rotate_left
    · simp at e
    rename_i x' f hk
    split at e
    rotate_left
    · simp at e
    rename_i hf
    simp only [Option.some.injEq, Prod.mk.injEq] at e
    obtain ⟨rfl, _⟩ := e
    have hfr : fr = true → f = true := fun hh => by simpa [hh] using hf
    split at hk
    · rename_i cs
      obtain ⟨vs, rfl, hc⟩ := ht
      have hr := of_sound h hc hk
      have hr' : k.rd w (if fr = true then C.fresh s.heap β w else C.N s.heap β w) x' vs := K.rd_mono (fun _ _ => rfl) (fun b hb => by
        cases f
        · have : fr = false := by cases fr; rfl; exact absurd (hfr rfl) (by simp)
          subst this; exact hb
        · cases fr
          · exact Cx.fresh_N hb
          · exact hb) _ _ _ hr
      exact ⟨vs, rfl, K.cells_R fr k _ _ hr'⟩
    · rename_i y
      have hr := of_sound h (l := [y]) (vs := [v]) ⟨ht, trivial⟩ hk
      have hr' : k.rd w (if fr = true then C.fresh s.heap β w else C.N s.heap β w) x' [v] := K.rd_mono (fun _ _ => rfl) (fun b hb => by
        cases f
        · have : fr = false := by cases fr; rfl; exact absurd (hfr rfl) (by simp)
          subst this; exact hb
        · cases fr
          · exact Cx.fresh_N hb
          · exact hb) _ _ _ hr
      have hc := K.cells_R (N := C.N s.heap β w) (Nf := C.fresh s.heap β w) (β := β') fr k _ _ hr'
      show TV.R w _ _ β' ((shapeTV false (K.cells fr k x')).getD (.one .junk)) v
      generalize K.cells fr k x' = cc at hc ⊢
      match cc, hc with
      | [c], hc => exact hc.1
    · simp at hk
  | v T k fr =>
    simp only [decS] at e
    split at e
    · rename_i y
      have hm := hm T k fr rfl
      rcases decV_some e with ⟨rfl, rfl, rfl⟩ | ⟨l', f, rfl, rfl, ho, _⟩
      · have ht : v = .slice none 0 0 := ht
        subst ht
        exact ⟨⟨0, 0, k.size, 0, 0, false, none⟩, none, 0, hm, rfl, Nat.le_refl _, .inr ⟨rfl, rfl⟩⟩
      · obtain ⟨r, A, c, hr, e1, e2, e3⟩ := ht
        exact ⟨r, A, c, by rw [hm]; exact hr, e1, e2, e3⟩
    · simp at e
  | np =>
    simp only [decS] at e
    split at e
    · exact ht
    · simp at e

/-- The object that such a slot brings. -/
theorem decS_obj (h : Rel C s β a w) {T : TypeId} {k : K} {fr : Bool} {t : TV} {x : List k.den} {l : Option Nat} (e : decS s.heap (.v T k fr) t = some (x, l)) {m : Nat} {src : Nat → Option Nat} (hsrc : src m = l)
    (hm : β'[m]? = recOf β k l) (hd : Bool) : ObjOK C s β β' w src m (hd, .vec T k x fr) := by
  simp only [decS] at e
  split at e
  · rcases decV_some e with ⟨rfl, rfl, rfl⟩ | ⟨l', f, rfl, rfl, ho, hf⟩
    · exact .inr ⟨_, hm, ⟨rfl, rfl, Nat.le_refl _, rfl⟩, .inl rfl⟩
    · obtain ⟨ff, r, h1, h2, g1, g2, g3, g4⟩ := h.obj ho (by simp)
      refine .inr ⟨r, by rw [hm]; exact h2, ⟨g1, g2, g3, ?_⟩, .inr ⟨l', _, hsrc, h1, h2, rfl⟩⟩
      by_cases hreal : r.real = true
      · simp only [hreal, if_true] at g4 ⊢
        obtain ⟨pre, mid, post, hh, hp, hrow, hcap⟩ := g4
        refine ⟨pre, mid, post, hh, hp, rows_weak (fun _ _ => rfl) (fun b hb => ?_) hrow, hcap⟩
        exact fl_weak hb hf
      · simp only [hreal] at g4 ⊢
        exact g4
  · simp at e

/-- A mark of this activation, or of one that waits. -/
def AllMarks (C : Cx) (s : AS) (l : Nat) : Prop := l ∈ s.marks ∨ ∃ f ∈ C.frs, l ∈ f.marks

theorem Rel.mark_all (h : Rel C s β a w) {l : Nat} (hl : AllMarks C s l) : s.heap[l]? = some (true, .mark) := by
  rcases hl with hl | ⟨f, hf, hl⟩
  · exact h.mark_at hl
  · obtain ⟨bs, _, hb⟩ := (h.frs f hf).defers
    obtain ⟨b, r, _, _, e⟩ := hb.left l hl
    exact e

structure Inv (C : Cx) (s : AS) (β β' : List Bl) (a : Act) (w : World) (src : Nat → Option Nat) (th : List TV × Heap) : Prop where
  it : ∀ (i : Nat) (x : TV), th.1[i]? = some x → x.R w (C.N s.heap β w) (C.fresh s.heap β w) β' (a.tmps.getD i undef)
  io : ∀ (j : Nat) (o : Bool × AObj), th.2[j]? = some o → ObjOK C s β β' w src j o
  im : ∀ l, AllMarks C s l → th.2[l]? = some (true, AObj.mark)
  tl : th.1.length = s.tmps.length

theorem Inv.setSlot {src : Nat → Option Nat} {th : List TV × Heap} (I : Inv C s β β' a w src th) (i : Nat) {x : TV} (hx : x.R w (C.N s.heap β w) (C.fresh s.heap β w) β' (a.tmps.getD i undef)) : Inv C s β β' a w src (th.1.set i x, th.2) := by
  refine ⟨fun j y hy => ?_, I.io, I.im, by simp [I.tl]⟩
  by_cases e : i = j
  · subst e
    by_cases hl : i < th.1.length
    · simp [hl] at hy; subst hy; exact hx
    · simp [hl] at hy
  · simp only [List.getElem?_set_ne e] at hy
    exact I.it j y hy

theorem Inv.pushObj {src : Nat → Option Nat} {th : List TV × Heap} (I : Inv C s β β' a w src th) {os : Heap} (ho : ∀ j o, os[j]? = some o → ObjOK C s β β' w src (th.2.length + j) o) : Inv C s β β' a w src (th.1, th.2 ++ os) := by
  refine ⟨I.it, fun j o hj => ?_, fun l hl => get_app (I.im l hl), I.tl⟩
  by_cases hl : j < th.2.length
  · rw [List.getElem?_append_left hl] at hj; exact I.io j o hj
  · rw [List.getElem?_append_right (by omega)] at hj
    have := ho (j - th.2.length) o hj
    rwa [show th.2.length + (j - th.2.length) = j by omega] at this

theorem Inv.setObj {src : Nat → Option Nat} {th : List TV × Heap} (I : Inv C s β β' a w src th) (l : Nat) {o : Bool × AObj} (ho : ObjOK C s β β' w src l o) (hn : ¬ AllMarks C s l) : Inv C s β β' a w src (th.1, th.2.set l o) := by
  refine ⟨I.it, fun j o' hj => ?_, fun m hm => ?_, I.tl⟩
  · by_cases e : l = j
    · subst e
      by_cases hl : l < th.2.length
      · simp [hl] at hj; subst hj; exact ho
      · simp [hl] at hj
    · simp only [List.getElem?_set_ne e] at hj
      exact I.io j o' hj
  · have e : l ≠ m := fun e => hn (e ▸ hm)
    simp only [List.getElem?_set_ne e]
    exact I.im m hm

/-- The places of the owned rows that are told. -/
def recsOf (β : List Bl) : List Item → List (Option Nat) → List (Option Bl)
  | [], _ => []
  | it :: r, ls => if it.owns = true then (match ls with
      | l :: ls => recOf β it.rk l :: recsOf β r ls
      | [] => recsOf β r []) else recsOf β r ls

theorem encI_len (hd : Bool) (it : Item) (x : it.kind.den) (th : List TV × Heap) (hb : ∀ l j sk, it = .cell l j sk → ∃ T cs, hat th.2 l = .box T cs) : (encI hd it x th).2.length = th.2.length + (if it.owns then 1 else 0) := by
  obtain ⟨t, h⟩ := th
  cases it with
  | slot i sk => cases sk <;> simp [encI, encO, Item.owns]
  | cell l j sk =>
    obtain ⟨T, cs, hb⟩ := hb l j sk rfl
    unfold encI
    simp only [hb]
    cases sk <;> simp [encO, Item.owns]
  | vec l T k fr => simp [encI, Item.owns]
  | map l k v fr => simp [encI, Item.owns]
  | lp l st => simp [encI, Item.owns]
  | pbox i T n => simp [encI, Item.owns]
  | pcell i j m sk =>
    unfold encI
    dsimp only
    split
    · split <;> cases sk <;> simp [encO, Item.owns]
    · cases sk <;> simp [encO, Item.owns]

/-- One item. -/
theorem Inv.item (h : Rel C s β a w) {src : Nat → Option Nat} {th : List TV × Heap} (I : Inv C s β β' a w src th) (hd : Bool) {it : Item} {x : it.kind.den} {l : Option Nat} (e : decI s it = some (x, l))
    (hm : it.owns = true → β'[th.2.length]? = recOf β it.rk l ∧ src th.2.length = l)
    (hsrc : ∀ l j sk, it = .cell l j sk → src l = some l ∧ β'[l]? = β[l]?) (hsrc' : ∀ l ∈ wholeOf [it], src l = some l ∧ β'[l]? = β[l]?) :
    Inv C s β β' a w src (encI hd it x th) := by
  obtain ⟨t, hh⟩ := th
  have newobj : ∀ (sk : SK) (tv : TV) (y : sk.kind.den), decS s.heap sk tv = some (y, l) → (∀ T k fr, sk = .v T k fr → β'[hh.length]? = recOf β k l ∧ src hh.length = l) →
      ∀ j o, (encO hd sk y)[j]? = some o → ObjOK C s β β' w src (hh.length + j) o := by
    intro sk tv y hy hsk j o ho
    cases sk with
    | d agg k fr => simp [encO] at ho
    | np => simp [encO] at ho
    | v T k fr =>
      obtain ⟨h1, h2⟩ := hsk T k fr rfl
      cases j with
      | zero => simp [encO] at ho; subst ho; exact decS_obj h hy h2 h1 _
      | succ j => simp [encO] at ho
  cases it with
  | slot i sk =>
    simp only [decI] at e
    split at e
    rotate_left
    · simp at e
    rename_i tv htv
    have hsk : ∀ T k fr, sk = .v T k fr → β'[hh.length]? = recOf β k l ∧ src hh.length = l := fun T k fr e => by subst e; exact hm rfl
    have h1 := (I.pushObj (newobj sk tv x e hsk)).setSlot i (x := encS hh.length sk x) (decS_enc h (h.tm i tv htv) e _ (fun T k fr e => (hsk T k fr e).1))
    exact h1
  | cell m j sk =>
    simp only [decI] at e
    split at e
    rotate_left
    · simp at e
    rename_i T0 cs0 hb0
    split at e
    rotate_left
    · simp at e
    rename_i c hc
    have hsk : ∀ T k fr, sk = .v T k fr → β'[hh.length]? = recOf β k l ∧ src hh.length = l := fun T k fr e => by subst e; exact hm rfl
    unfold encI
    dsimp only
    split
    rotate_left
    · exact I
    rename_i T cs hb
    obtain ⟨f0, r0, g1, g2, vs0, g3, g4, g5⟩ := h.obj hb0 (by simp)
    obtain ⟨v, hv, hcv⟩ := g5.get hc
    have hr := decS_enc h (t := .one c) hcv e hh.length (fun T k fr e => (hsk T k fr e).1)
    obtain ⟨f1, hf1⟩ := hat_eq hb (by simp)
    obtain ⟨s1, s2⟩ := hsrc m j sk rfl
    have hob := I.io m _ hf1
    rcases hob with hd' | ⟨r, k1, ⟨vs, k2, k3, k4⟩, k5⟩
    · simp at hd'
    rw [s2, g2] at k1
    cases k1
    rw [g3] at k2
    have hvs : vs = vs0 := by
      simp only [Option.some.injEq, Obj.cells.injEq] at k2
      have := congrArg Array.toList k2.1
      simpa using this.symm
    subst hvs
    have hT : T0 = T := by simp only [Option.some.injEq, Obj.cells.injEq] at k2; exact k2.2.1
    subst hT
    have hset : ObjOK C s β β' w src m (!hd, .box T0 (cs.set j (match encS hh.length sk x with | .one a => a | _ => .junk))) := by
      refine .inr ⟨r0, by rw [s2]; exact g2, ⟨vs.set j v, ?_, k3, k4.set j ?_⟩, .inr ⟨m, _, s1, g1, g2, rfl⟩⟩
      · rw [g3]
        have hj := (List.getElem?_eq_some_iff.1 hv)
        congr 2
        rw [← hj.2]; simp
      · generalize encS hh.length sk x = ee at hr
        cases ee with
        | one a => exact hr
        | agg _ => trivial
        | tup _ => trivial
    have h1 := (I.setObj m hset (fun hm => by have := h.mark_all hm; rw [g1] at this; simp at this))
    have h2 := h1.pushObj (os := encO hd sk x) (fun j' o ho => by
      have := newobj sk (.one c) x e hsk j' o ho
      simpa using this)
    exact h2
  | vec m T k fr =>
    simp only [decI] at e
    split at e
    rotate_left
    · simp at e
    rename_i T' k' xs' f ho
    split at e
    rotate_left
    · simp at e
    rename_i hc
    split at e
    rotate_left
    · simp at e
    rename_i hk
    subst hk
    simp only [Option.some.injEq, Prod.mk.injEq] at e
    obtain ⟨rfl, rfl⟩ := e
    obtain ⟨rfl, hf⟩ := hc
    obtain ⟨f0, r, g1, g2, g3, g4, g5, g6⟩ := h.obj ho (by simp)
    obtain ⟨s1, s2⟩ := hsrc' m (by simp [wholeOf])
    refine I.setObj m ?_ (fun hm => by have := h.mark_all hm; rw [g1] at this; simp at this)
    refine .inr ⟨r, by rw [s2]; exact g2, ⟨g3, g4, g5, ?_⟩, .inr ⟨m, _, s1, g1, g2, rfl⟩⟩
    by_cases hreal : r.real = true
    · simp only [hreal, if_true] at g6 ⊢
      obtain ⟨pre, mid, post, hh, hp, hrow, hcap⟩ := g6
      refine ⟨pre, mid, post, hh, hp, rows_weak (fun _ _ => rfl) (fun b hb => ?_) hrow, hcap⟩
      exact fl_weak hb (fun hfr => by simpa [hfr] using hf)
    · simp only [hreal] at g6 ⊢
      exact g6
  | map m k v fr =>
    simp only [decI] at e
    split at e
    rotate_left
    · simp at e
    rename_i k' v' es' f ho
    split at e
    rotate_left
    · simp at e
    rename_i hf
    split at e
    rotate_left
    · simp at e
    rename_i hk
    subst hk
    split at e
    rotate_left
    · simp at e
    rename_i hk
    subst hk
    simp only [Option.some.injEq, Prod.mk.injEq] at e
    obtain ⟨rfl, rfl⟩ := e
    obtain ⟨f0, r, g1, g2, l0, ck, g3, g4, g5⟩ := h.obj ho (by simp)
    obtain ⟨s1, s2⟩ := hsrc' m (by simp [wholeOf])
    refine I.setObj m ?_ (fun hm => by have := h.mark_all hm; rw [g1] at this; simp at this)
    refine .inr ⟨r, by rw [s2]; exact g2, ⟨l0, ck, g3, g4, g5.mono fun p q hp => entR_mono (fun _ _ => rfl) (fun b hb => fl_weak hb (fun hfr => by simpa [hfr] using hf)) hp⟩, .inr ⟨m, _, s1, g1, g2, rfl⟩⟩
  | lp m st =>
    simp only [decI] at e
    split at e
    rotate_left
    · simp at e
    rename_i st' ho
    split at e
    rotate_left
    · simp at e
    rename_i hs
    subst hs
    obtain ⟨f0, r, g1, g2, rc, g3, g4⟩ := h.obj ho (by simp)
    obtain ⟨s1, s2⟩ := hsrc' m (by simp [wholeOf])
    refine I.setObj m ?_ (fun hm => by have := h.mark_all hm; rw [g1] at this; simp at this)
    exact .inr ⟨r, by rw [s2]; exact g2, ⟨rc, g3, g4⟩, .inr ⟨m, _, s1, g1, g2, rfl⟩⟩
  | pbox i T n =>
    simp only [decI] at e
    split at e
    rotate_left
    · simp at e
    rename_i l0 htv
    split at e
    rotate_left
    · simp at e
    rename_i T0 cs0 hb0
    split at e
    rotate_left
    · simp at e
    rename_i hc
    obtain ⟨rfl, hn⟩ := hc
    simp only [Option.some.injEq, Prod.mk.injEq] at e
    obtain ⟨_, rfl⟩ := e
    obtain ⟨h1, h2⟩ := hm rfl
    have h1 : β'[hh.length]? = β[l0]? := h1
    have h2 : src hh.length = some l0 := h2
    obtain ⟨f0, r0, g1, g2, vs0, g3, g4, g5⟩ := h.obj hb0 (by simp)
    have hlen := All2.len g5
    have key : ∀ (n : Nat) (vs : List Value), n = vs.length → All2 (AV.R w (C.N s.heap β w) (C.fresh s.heap β w) β') (List.replicate n AV.junk) vs := by
      intro n
      induction n with
      | zero => intro vs hh; cases vs <;> simp at hh; trivial
      | succ n ih => intro vs hh; cases vs with
        | nil => simp at hh
        | cons v vs => exact ⟨trivial, ih vs (by simpa using hh)⟩
    have hobj : ∀ j o, ([(!hd, AObj.box T0 (List.replicate n .junk))] : Heap)[j]? = some o → ObjOK C s β β' w src (hh.length + j) o := by
      intro j o ho
      cases j with
      | zero =>
        simp at ho; subst ho
        exact .inr ⟨r0, by rw [Nat.add_zero, h1]; exact g2, ⟨vs0, g3, g4, key n vs0 (by omega)⟩, .inr ⟨l0, _, h2, g1, g2, rfl⟩⟩
      | succ j => simp at ho
    obtain ⟨ra, ha1, ha2⟩ := h.tm i _ htv
    exact (I.pushObj hobj).setSlot i (x := .one (.ptr hh.length 0)) ⟨ra, by rw [h1]; exact ha1, ha2⟩
  | pcell i j m sk =>
    simp only [decI] at e
    split at e
    rotate_left
    · simp at e
    rename_i l0 htv
    split at e
    rotate_left
    · simp at e
    rename_i T0 cs0 hb0
    split at e
    rotate_left
    · simp at e
    rename_i c hc
    have hsk : ∀ T k fr, sk = .v T k fr → β'[hh.length]? = recOf β k l ∧ src hh.length = l := fun T k fr e => by subst e; exact hm rfl
    unfold encI
    dsimp only
    split
    rotate_left
    · exact I.pushObj (newobj sk (.one c) x e hsk)
    rename_i m' T cs ht hb
    split
    rotate_left
    · exact I.pushObj (newobj sk (.one c) x e hsk)
    rename_i hmm
    subst hmm
    obtain ⟨f0, r0, g1, g2, vs0, g3, g4, g5⟩ := h.obj hb0 (by simp)
    obtain ⟨v, hv, hcv⟩ := g5.get hc
    have hr := decS_enc h (t := .one c) hcv e hh.length (fun T k fr e => (hsk T k fr e).1)
    obtain ⟨f1, hf1⟩ := hat_eq hb (by simp)
    obtain ⟨ra, ha1, ha2⟩ := h.tm i _ htv
    obtain ⟨rb, hb1, hb2⟩ := I.it i _ ht
    rw [g2] at ha1
    cases ha1
    rcases I.io m' _ hf1 with hd' | ⟨r, k1, ⟨vs, k2, k3, k4⟩, k5⟩
    · simp at hd'
    rw [hb1] at k1
    cases k1
    have hblk : r0.blk = rb.blk := by
      rw [ha2] at hb2
      simp only [Bl.addr, Value.pointer.injEq, Option.some.injEq, Addr.mk.injEq] at hb2
      exact hb2.1
    rw [← hblk, g3] at k2
    have hvs : vs = vs0 := by
      simp only [Option.some.injEq, Obj.cells.injEq] at k2
      have := congrArg Array.toList k2.1
      simpa using this.symm
    subst hvs
    have hT : T0 = T := by simp only [Option.some.injEq, Obj.cells.injEq] at k2; exact k2.2.1
    subst hT
    have hset : ObjOK C s β β' w src m' (!hd, .box T0 (cs.set j (match encS hh.length sk x with | .one a => a | _ => .junk))) := by
      refine .inr ⟨rb, hb1, ⟨vs.set j v, ?_, k3, k4.set j ?_⟩, k5⟩
      · rw [← hblk, g3]
        have hj := (List.getElem?_eq_some_iff.1 hv)
        congr 2
        rw [← hj.2]; simp
      · generalize encS hh.length sk x = ee at hr
        cases ee with
        | one a => exact hr
        | agg _ => trivial
        | tup _ => trivial
    have h1 := (I.setObj m' hset (fun hm => by have := I.im m' hm; have := this.symm.trans hf1; simp at this))
    have h2 := h1.pushObj (os := encO hd sk x) (fun j' o ho => by
      have := newobj sk (.one c) x e hsk j' o ho
      simpa using this)
    exact h2

theorem recsOf_cons {it : Item} {r : List Item} {l : Option Nat} {ls : List (Option Nat)} (h : it.owns = true) : recsOf β (it :: r) (l :: ls) = recOf β it.rk l :: recsOf β r ls := by
  simp [recsOf, h]

theorem recsOf_skip {it : Item} {r : List Item} {ls : List (Option Nat)} (h : it.owns = false) : recsOf β (it :: r) ls = recsOf β r ls := by
  simp [recsOf, h]

/-- All items. -/
theorem Inv.items (h : Rel C s β a w) {src : Nat → Option Nat} (hd : Bool) : ∀ (la : List Item) (x : KU (LA.kinds la)) (ls : List (Option Nat)) (th : List TV × Heap), decL s la = some (x, ls) → Inv C s β β' a w src th →
    (∀ i l, ls[i]? = some l → src (th.2.length + i) = l) →
    (∀ i o, (recsOf β la ls)[i]? = some o → β'[th.2.length + i]? = o) →
    (∀ l ∈ boxesOf la ++ wholeOf la, src l = some l ∧ β'[l]? = β[l]? ∧ l < th.2.length) →
    (∀ l ∈ boxesOf la, ∃ T cs, hat th.2 l = .box T cs) → (∀ l ∈ boxesOf la, l ∉ vecsOf la) →
    Inv C s β β' a w src (encL hd la x th) ∧ (encL hd la x th).2.length = th.2.length + ls.length
  | [], x, ls, th, e, I, _, _, _, _, _ => by
    simp [decL] at e
    obtain ⟨_, rfl⟩ := e
    exact ⟨I, rfl⟩
  | it :: r, x, ls, th, e, I, h1, h2, h3, h4, h5 => by
    unfold decL at e
    split at e
    rotate_left
    · simp at e
    rename_i x1 l y ls' e1 e2
    simp only [Option.some.injEq, Prod.mk.injEq] at e
    obtain ⟨rfl, rfl⟩ := e
    have hown : it.owns = true → β'[th.2.length]? = recOf β it.rk l ∧ src th.2.length = l := by
      intro ho
      rw [if_pos ho] at h1 h2
      rw [recsOf_cons ho] at h2
      exact ⟨by simpa using h2 0 _ rfl, by simpa using h1 0 l rfl⟩
    have I2 := I.item h hd e1 hown (fun m j sk e => by subst e; have := h3 m (by simp [boxesOf]); exact ⟨this.1, this.2.1⟩) (fun m hm => by have := h3 m (by refine List.mem_append.2 (.inr ?_); cases it <;> simp_all [wholeOf]); exact ⟨this.1, this.2.1⟩)
    have hlen := encI_len hd it x1 th (fun m j sk e => by subst e; exact h4 m (by simp [boxesOf]))
    have keep : ∀ m ∈ boxesOf r, ∃ T cs, hat (encI hd it x1 th).2 m = .box T cs := by
      intro m hm
      have hmb : m ∈ boxesOf (it :: r) := by cases it <;> simp [boxesOf, hm]
      obtain ⟨T, cs, hb⟩ := h4 m hmb
      obtain ⟨f, hf⟩ := hat_eq hb (by simp)
      have hml := (List.getElem?_eq_some_iff.1 hf).1
      obtain ⟨t, hh⟩ := th
      cases it with
      | slot i sk =>
        refine ⟨T, cs, ?_⟩
        simp only [encI, hat]
        rw [List.getElem?_append_left hml, hf]
      | cell m' j sk =>
        obtain ⟨T', cs', hb'⟩ : ∃ T' cs', hat hh m' = .box T' cs' := h4 m' (by simp [boxesOf])
        simp only [encI, hb']
        by_cases em : m' = m
        · subst em
          have e2 : ∀ (x : Bool × AObj) (y : Heap), (hh.set m' x ++ y)[m']? = some x := fun x y => by
            rw [List.getElem?_append_left (by simpa using hml), List.getElem?_set_self hml]
          simp only [hat, e2]
          exact ⟨_, _, rfl⟩
        · refine ⟨T, cs, ?_⟩
          simp only [hat]
          rw [List.getElem?_append_left (by simpa using hml), List.getElem?_set_ne em, hf]
      | vec m' T' k fr =>
        have hne : m' ≠ m := fun e => by subst e; exact h5 m' hmb (by simp [vecsOf])
        refine ⟨T, cs, ?_⟩
        simp only [encI, hat]
        rw [List.getElem?_set_ne hne, hf]
      | map m' k v fr =>
        have hne : m' ≠ m := fun e => by subst e; exact h5 m' hmb (by simp [vecsOf])
        refine ⟨T, cs, ?_⟩
        simp only [encI, hat]
        rw [List.getElem?_set_ne hne, hf]
      | lp m' st =>
        have hne : m' ≠ m := fun e => by subst e; exact h5 m' hmb (by simp [vecsOf])
        refine ⟨T, cs, ?_⟩
        simp only [encI, hat]
        rw [List.getElem?_set_ne hne, hf]
      | pbox i T' n =>
        refine ⟨T, cs, ?_⟩
        simp only [encI, hat]
        rw [List.getElem?_append_left hml, hf]
      | pcell i j m' sk =>
        have hne : m' ≠ m := fun e => by subst e; exact h5 m' hmb (by simp [vecsOf])
        refine ⟨T, cs, ?_⟩
        have e1 : ∀ y : Heap, hat (hh ++ y) m = .box T cs := fun y => by
          simp only [hat]; rw [List.getElem?_append_left hml, hf]
        have e2 : ∀ (x : Bool × AObj) (y : Heap), hat (hh.set m' x ++ y) m = .box T cs := fun x y => by
          simp only [hat]; rw [List.getElem?_append_left (by simpa using hml), List.getElem?_set_ne hne, hf]
        simp only [encI]
        split
        · split
          · exact e2 _ _
          · exact e1 _
        · exact e1 _
    have sub : ∀ m, m ∈ boxesOf r ++ wholeOf r → m ∈ boxesOf (it :: r) ++ wholeOf (it :: r) := by
      intro m hm
      rcases List.mem_append.1 hm with hm | hm
      · refine List.mem_append.2 (.inl ?_); cases it <;> simp [boxesOf, hm]
      · refine List.mem_append.2 (.inr ?_); cases it <;> simp [wholeOf, hm]
    have hb5 : ∀ m ∈ boxesOf r, m ∉ vecsOf r := fun m hm hv => h5 m (by cases it <;> simp [boxesOf, hm]) (by cases it <;> simp [vecsOf, hv])
    cases hoc : it.owns with
    | true =>
      rw [if_pos hoc] at hlen
      rw [if_pos hoc] at h1 h2
      rw [recsOf_cons hoc] at h2
      have := Inv.items h hd r y ls' (encI hd it x1 th) e2 I2 (fun i l hl => by
          have := h1 (i + 1) l (by simpa using hl)
          rwa [hlen, show th.2.length + 1 + i = th.2.length + (i + 1) by omega])
        (fun i o ho => by
          have := h2 (i + 1) o (by simpa using ho)
          rwa [hlen, show th.2.length + 1 + i = th.2.length + (i + 1) by omega])
        (fun m hm => by obtain ⟨q1, q2, q3⟩ := h3 m (sub m hm); exact ⟨q1, q2, by omega⟩) keep hb5
      refine ⟨this.1, ?_⟩
      show (encL hd r y (encI hd it x1 th)).2.length = _
      rw [this.2, hlen]; simp; omega
    | false =>
      rw [hoc] at h1 h2 hlen
      simp only [Bool.false_eq_true, if_false] at h1 h2 hlen
      rw [recsOf_skip hoc] at h2
      have := Inv.items h hd r y ls' (encI hd it x1 th) e2 I2 (fun i l hl => by
          rw [hlen]; exact h1 i l hl)
        (fun i o ho => by
          rw [hlen]; exact h2 i o ho)
        (fun m hm => by obtain ⟨q1, q2, q3⟩ := h3 m (sub m hm); exact ⟨q1, q2, by omega⟩) keep hb5
      refine ⟨this.1, ?_⟩
      show (encL hd r y (encI hd it x1 th)).2.length = _
      rw [this.2, hlen]; simp
end
end Go.Proofs.AM
end

section
/- Telling a state anew by data. -/
namespace Go.Proofs.AM
open Go Go.RowKit

theorem junkAll_tm {i : Nat} : ∀ (D : List Nat) (t : List TV), i ∉ D → (junkAll D t)[i]? = t[i]?
  | [], _, _ => rfl
  | d :: D, t, h => by
    show (junkAll D (t.set d (.one .junk)))[i]? = _
    rw [junkAll_tm D _ (fun hh => h (by simp [hh])), List.getElem?_set_ne (fun e => h (by simp [e]))]

theorem junkAll_len : ∀ (D : List Nat) (t : List TV), (junkAll D t).length = t.length
  | [], _ => rfl
  | d :: D, t => by
    show (junkAll D (t.set d (.one .junk))).length = _
    rw [junkAll_len D]; simp

theorem junkAll_in {i : Nat} : ∀ (D : List Nat) (t : List TV), i ∈ D → ∀ x, (junkAll D t)[i]? = some x → x = .one .junk
  | d :: D, t, h, x, hx => by
    have hx : (junkAll D (t.set d (.one .junk)))[i]? = some x := hx
    by_cases hi : i ∈ D
    · exact junkAll_in D _ hi x hx
    · rw [junkAll_tm D _ hi] at hx
      have : i = d := by simpa [hi] using h
      subst this
      rw [List.getElem?_set_self'] at hx
      cases h' : t[i]? <;> simp [h'] at hx
      exact hx.symm

theorem base_get {hd : Bool} {ks bs : List Nat} : ∀ (h : Heap) (n j : Nat), (baseHeapFrom hd ks bs h n)[j]? = (h[j]?).map (fun o => baseObj hd ks bs o (n + j))
  | [], _, _ => rfl
  | o :: h, n, 0 => rfl
  | o :: h, n, j + 1 => by
    show (baseHeapFrom hd ks bs h (n + 1))[j]? = _
    rw [base_get h (n + 1) j]
    simp [Nat.add_assoc, Nat.add_comm 1 j]

theorem base_len {hd : Bool} {ks bs : List Nat} : ∀ (h : Heap) (n : Nat), (baseHeapFrom hd ks bs h n).length = h.length
  | [], _ => rfl
  | o :: h, n => by simp [baseHeapFrom, base_len h]

/-! ### what the telling leaves -/
theorem encI_tm {hd : Bool} {it : Item} {x : it.kind.den} {th : List TV × Heap} {i : Nat} (h : i ∉ slotsOf [it]) : (encI hd it x th).1[i]? = th.1[i]? := by
  obtain ⟨t, hh⟩ := th
  cases it with
  | slot j sk =>
    simp only [encI]
    rw [List.getElem?_set_ne (fun e => h (by simp [slotsOf, e]))]
  | cell l j sk => simp only [encI]; split <;> rfl
  | vec l T k fr => rfl
  | map l k v fr => rfl
  | lp l st => rfl
  | pbox j T n =>
    simp only [encI]
    rw [List.getElem?_set_ne (fun e => h (by simp [slotsOf, e]))]
  | pcell j c m sk => simp only [encI]; split <;> (try split) <;> rfl

theorem encI_tl {hd : Bool} {it : Item} {x : it.kind.den} {th : List TV × Heap} : (encI hd it x th).1.length = th.1.length := by
  obtain ⟨t, hh⟩ := th
  cases it with
  | slot j sk => simp [encI]
  | cell l j sk => simp only [encI]; split <;> rfl
  | vec l T k fr => rfl
  | map l k v fr => rfl
  | lp l st => rfl
  | pbox j T n => simp [encI]
  | pcell j c m sk => simp only [encI]; split <;> (try split) <;> rfl

theorem encI_le {hd : Bool} {it : Item} {x : it.kind.den} {th : List TV × Heap} : th.2.length ≤ (encI hd it x th).2.length := by
  obtain ⟨t, hh⟩ := th
  cases it with
  | slot j sk => simp [encI]
  | cell l j sk => simp only [encI]; split <;> simp
  | vec l T k fr => simp [encI]
  | map l k v fr => simp [encI]
  | lp l st => simp [encI]
  | pbox j T n => simp [encI]
  | pcell j c m sk => simp only [encI]; split <;> (try split) <;> simp

theorem encI_keep {hd : Bool} {it : Item} {x : it.kind.den} {th : List TV × Heap} {l : Nat} (hl : l < th.2.length) (h : l ∉ boxesOf [it] ++ vecsOf [it]) : (encI hd it x th).2[l]? = th.2[l]? := by
  obtain ⟨t, hh⟩ := th
  cases it with
  | slot j sk => simp only [encI]; rw [List.getElem?_append_left hl]
  | cell m j sk =>
    simp only [encI]
    have : m ≠ l := fun e => h (by simp [boxesOf, e])
    split
    · rw [List.getElem?_append_left (by simpa using hl), List.getElem?_set_ne this]
    · rfl
  | vec m T k fr =>
    have : m ≠ l := fun e => h (by simp [vecsOf, e])
    simp only [encI]
    rw [List.getElem?_set_ne this]
  | map m k v fr =>
    have : m ≠ l := fun e => h (by simp [vecsOf, e])
    simp only [encI]
    rw [List.getElem?_set_ne this]
  | lp m st =>
    have : m ≠ l := fun e => h (by simp [vecsOf, e])
    simp only [encI]
    rw [List.getElem?_set_ne this]
  | pbox j T n => simp only [encI]; rw [List.getElem?_append_left hl]
  | pcell j c m sk =>
    have : m ≠ l := fun e => h (by simp [vecsOf, e])
    simp only [encI]
    split
    · split
      · rw [List.getElem?_append_left (by simpa using hl), List.getElem?_set_ne this]
      · rw [List.getElem?_append_left hl]
    · rw [List.getElem?_append_left hl]

theorem encI_flag {it : Item} {x : it.kind.den} {th : List TV × Heap} {l : Nat} {o : AObj} (hl : l < th.2.length) (h : (encI false it x th).2[l]? = some (false, o)) : th.2[l]? = some (false, o) := by
  obtain ⟨t, hh⟩ := th
  cases it with
  | slot j sk => simp only [encI] at h; rwa [List.getElem?_append_left hl] at h
  | cell m j sk =>
    simp only [encI] at h
    split at h
    · rw [List.getElem?_append_left (by simpa using hl)] at h
      by_cases e : m = l
      · subst e; simp [show m < hh.length from hl] at h
      · rwa [List.getElem?_set_ne e] at h
    · exact h
  | vec m T k fr =>
    simp only [encI] at h
    by_cases e : m = l
    · subst e; simp [show m < hh.length from hl] at h
    · rwa [List.getElem?_set_ne e] at h
  | map m k v fr =>
    simp only [encI] at h
    by_cases e : m = l
    · subst e; simp [show m < hh.length from hl] at h
    · rwa [List.getElem?_set_ne e] at h
  | lp m st =>
    simp only [encI] at h
    by_cases e : m = l
    · subst e; simp [show m < hh.length from hl] at h
    · rwa [List.getElem?_set_ne e] at h
  | pbox j T n => simp only [encI] at h; rwa [List.getElem?_append_left hl] at h
  | pcell j c m sk =>
    simp only [encI] at h
    split at h
    · split at h
      · rw [List.getElem?_append_left (by simpa using hl)] at h
        by_cases e : m = l
        · subst e; simp [show m < hh.length from hl] at h
        · rwa [List.getElem?_set_ne e] at h
      · rwa [List.getElem?_append_left hl] at h
    · rwa [List.getElem?_append_left hl] at h

theorem slots_sub {it : Item} {r : List Item} {i : Nat} (h : i ∉ slotsOf (it :: r)) : i ∉ slotsOf [it] ∧ i ∉ slotsOf r := by
  cases it <;> simp_all [slotsOf]
theorem boxes_sub {it : Item} {r : List Item} {i : Nat} (h : i ∉ boxesOf (it :: r) ++ vecsOf (it :: r)) : i ∉ boxesOf [it] ++ vecsOf [it] ∧ i ∉ boxesOf r ++ vecsOf r := by
  cases it <;> simp_all [boxesOf, vecsOf]

theorem encL_tm {hd : Bool} {i : Nat} : ∀ (la : List Item) (x : KU (LA.kinds la)) (th : List TV × Heap), i ∉ slotsOf la → (encL hd la x th).1[i]? = th.1[i]?
  | [], _, _, _ => rfl
  | it :: r, x, th, h => by
    exact (encL_tm r x.2 (encI hd it x.1 th) (slots_sub h).2).trans (encI_tm (slots_sub h).1)

theorem encL_tl {hd : Bool} : ∀ (la : List Item) (x : KU (LA.kinds la)) (th : List TV × Heap), (encL hd la x th).1.length = th.1.length
  | [], _, _ => rfl
  | it :: r, x, th => by
    exact (encL_tl r x.2 (encI hd it x.1 th)).trans encI_tl

theorem encL_le {hd : Bool} : ∀ (la : List Item) (x : KU (LA.kinds la)) (th : List TV × Heap), th.2.length ≤ (encL hd la x th).2.length
  | [], _, _ => Nat.le_refl _
  | it :: r, x, th => Nat.le_trans encI_le (encL_le r x.2 (encI hd it x.1 th))

theorem encL_keep {hd : Bool} {l : Nat} : ∀ (la : List Item) (x : KU (LA.kinds la)) (th : List TV × Heap), l < th.2.length → l ∉ boxesOf la ++ vecsOf la → (encL hd la x th).2[l]? = th.2[l]?
  | [], _, _, _, _ => rfl
  | it :: r, x, th, hl, h => by
    exact (encL_keep r x.2 (encI hd it x.1 th) (Nat.lt_of_lt_of_le hl encI_le) (boxes_sub h).2).trans (encI_keep hl (boxes_sub h).1)

theorem encL_flag {l : Nat} {o : AObj} : ∀ (la : List Item) (x : KU (LA.kinds la)) (th : List TV × Heap), l < th.2.length → (encL false la x th).2[l]? = some (false, o) → th.2[l]? = some (false, o)
  | [], _, _, _, h => h
  | it :: r, x, th, hl, h => by
    have h : (encL false r x.2 (encI false it x.1 th)).2[l]? = some (false, o) := h
    exact encI_flag hl (encL_flag r _ _ (Nat.lt_of_lt_of_le hl encI_le) h)

section
variable {C : Cx} {s : AS} {β : List Bl} {a : Act} {w : World}

theorem own_rec (hb : β.length = s.heap.length) {it : Item} {x : it.kind.den} {l : Option Nat} (e : decI s it = some (x, l)) (ho : it.owns = true) : (recOf β it.rk l).isSome = true := by
  have key : ∀ {T : TypeId} {k : K} {fr : Bool} {y : AV} {xs : List k.den}, decV s.heap T k fr y = some (xs, l) → (recOf β k l).isSome = true := by
    intro T k fr y xs e
    rcases decV_some e with ⟨_, _, rfl⟩ | ⟨m, f, _, rfl, hm, _⟩
    · rfl
    · obtain ⟨g, hg⟩ := hat_eq hm (by simp)
      have := (List.getElem?_eq_some_iff.1 hg).1
      simp [recOf, hb, this]
  have keyS : ∀ {sk : SK} {t : TV} {x : sk.kind.den}, decS s.heap sk t = some (x, l) → ∀ T k fr, sk = .v T k fr → (recOf β k l).isSome = true := by
    rintro sk t x e T k fr rfl
    simp only [decS] at e
    split at e
    · exact key e
    · simp at e
  cases it with
  | slot i sk =>
    cases sk with
    | d _ _ _ => simp [Item.owns] at ho
    | np => simp [Item.owns] at ho
    | v T k fr =>
      simp only [decI] at e
      split at e
      · exact keyS e T k fr rfl
      · simp at e
  | cell m j sk =>
    cases sk with
    | d _ _ _ => simp [Item.owns] at ho
    | np => simp [Item.owns] at ho
    | v T k fr =>
      simp only [decI] at e
      split at e
      · split at e
        · exact keyS e T k fr rfl
        · simp at e
      · simp at e
  | vec _ _ _ _ => simp [Item.owns] at ho
  | map _ _ _ _ => simp [Item.owns] at ho
  | lp _ _ => simp [Item.owns] at ho
  | pbox i T n =>
    simp only [decI] at e
    split at e
    rotate_left
    · simp at e
    rename_i l0 htv
    split at e
    rotate_left
    · simp at e
    rename_i T0 cs0 hb0
    split at e
    rotate_left
    · simp at e
    simp only [Option.some.injEq, Prod.mk.injEq] at e
    obtain ⟨_, rfl⟩ := e
    obtain ⟨g, hg⟩ := hat_eq hb0 (by simp)
    have := (List.getElem?_eq_some_iff.1 hg).1
    simp [recOf, hb, this]
  | pcell i j m sk =>
    cases sk with
    | d _ _ _ => simp [Item.owns] at ho
    | np => simp [Item.owns] at ho
    | v T k fr =>
      simp only [decI] at e
      split at e
      · split at e
        · split at e
          · exact keyS e T k fr rfl
          · simp at e
        · simp at e
      · simp at e

theorem recsOf_ok (hb : β.length = s.heap.length) : ∀ (la : List Item) (x : KU (LA.kinds la)) (ls : List (Option Nat)), decL s la = some (x, ls) → (recsOf β la ls).length = ls.length ∧ ∀ o ∈ recsOf β la ls, o.isSome = true
  | [], x, ls, e => by
    simp [decL] at e
    obtain ⟨_, rfl⟩ := e
    simp [recsOf]
  | it :: r, x, ls, e => by
    unfold decL at e
    split at e
    rotate_left
    · simp at e
    rename_i x1 l y ls' e1 e2
    simp only [Option.some.injEq, Prod.mk.injEq] at e
    obtain ⟨rfl, rfl⟩ := e
    have ih := recsOf_ok hb r y ls' e2
    cases hoc : it.owns with
    | true =>
      rw [if_pos rfl, recsOf_cons hoc]
      refine ⟨by simp [ih.1], fun o ho => ?_⟩
      rcases List.mem_cons.1 ho with rfl | ho
      · exact own_rec hb e1 hoc
      · exact ih.2 o ho
    | false =>
      simp only [Bool.false_eq_true, if_false]
      rw [recsOf_skip hoc]
      exact ih

theorem nodupO_inj {l : Nat} : ∀ {ls : List (Option Nat)} {i j : Nat}, nodupO ls = true → ls[i]? = some (some l) → ls[j]? = some (some l) → i = j
  | [], i, j, _, h, _ => by simp at h
  | x :: r, 0, 0, _, _, _ => rfl
  | x :: r, i + 1, 0, hn, hi, hj => by
    simp at hi hj
    subst hj
    simp [nodupO] at hn
    exact absurd (List.mem_of_getElem? hi) hn.1
  | x :: r, 0, j + 1, hn, hi, hj => by
    simp at hi hj
    subst hi
    simp [nodupO] at hn
    exact absurd (List.mem_of_getElem? hj) hn.1
  | x :: r, i + 1, j + 1, hn, hi, hj => by
    have hn' : nodupO r = true := by cases x <;> simp_all [nodupO]
    exact congrArg (· + 1) (nodupO_inj (l := l) (i := i) (j := j) hn' (by simpa using hi) (by simpa using hj))

/-- What a state of a Rel says of itself. -/
structure AS.Fine (C : Cx) (s : AS) : Prop where
  tm : ∀ (i : Nat) (t : TV), s.tmps[i]? = some t → t.lt s.heap.length
  ob : ∀ (l : Nat) (o : Bool × AObj), s.heap[l]? = some o → o.2.lt s.heap.length
  mks : ∀ l, AllMarks C s l → s.heap[l]? = some (true, .mark)
  frm : ∀ f ∈ C.frs, ∀ (i : Nat) (t : TV), f.tmps[i]? = some t → t.lt s.heap.length

theorem Rel.fine (h : Rel C s β a w) : s.Fine C where
  tm i t e := by have := TV.R_lt (h.tm i t e); rwa [h.bsize] at this
  ob l o e := by
    have hl := (List.getElem?_eq_some_iff.1 e).1
    have := AObj.R_lt (h.ob l o _ e (List.getElem?_eq_getElem (by rw [h.bsize]; exact hl)))
    rwa [h.bsize] at this
  mks l hl := h.mark_all hl
  frm f hf i t e := by have := TV.R_lt ((h.frs f hf).tm i t e); rwa [h.bsize] at this

structure okP (h0 h : Heap) (D ks : List Nat) (la : List Item) (ls : List (Option Nat)) : Prop where
  sl : ∀ i ∈ slotsOf la, i ∈ D
  bx : ∀ l ∈ boxesOf la, ∃ T cs cs', l < h0.length ∧ hat h0 l = .box T cs ∧ hat h l = .box T cs' ∧ cs.length = cs'.length
  vc : ∀ l ∈ wholeOf la, l < h0.length ∧ (hat h0 l).whole = true
  pc : ∀ l ∈ pcsOf la, h0.length ≤ l
  ow : ∀ l, some l ∈ ls → l ∈ ks ∨ h0.length ≤ l
  nd : nodupO ls = true
  kk : ∀ l ∈ ks, (hat h0 l).isMark = false ∧ l ∉ boxesOf la ++ vecsOf la

theorem okL_ok {h0 h : Heap} {D ks : List Nat} {la : List Item} {ls : List (Option Nat)} (e : okL h0 h D ks la ls = true) : okP h0 h D ks la ls := by
  simp only [okL, Bool.and_eq_true, List.all_eq_true] at e
  obtain ⟨⟨⟨⟨⟨⟨e1, e2⟩, e3⟩, e7⟩, e4⟩, e5⟩, e6⟩ := e
  refine ⟨fun i hi => by simpa using e1 i hi, fun l hl => ?_, fun l hl => ?_, fun l hl => by simpa using e7 l hl, fun l hl => by simpa using e4 _ hl, e5, fun l hl => by simpa using e6 l hl⟩
  · obtain ⟨q1, q2⟩ := e2 l hl
    split at q2
    · rename_i T cs T' cs' g1 g2
      simp at q2
      obtain ⟨rfl, q2⟩ := q2
      exact ⟨_, _, _, by simpa using q1, g1, g2, q2⟩
    · simp at q2
  · obtain ⟨q1, q2⟩ := e3 l hl
    exact ⟨by simpa using q1, q2⟩

theorem Rel.reenc (h : Rel C s β a w) {s0 : AS} (hf : s0.Fine C) {D ks : List Nat} {la : List Item} {xu : KU (LA.kinds la)} {ls : List (Option Nat)} (e : decL s la = some (xu, ls)) (ok : okL s0.heap s.heap D ks la ls = true)
    (htl : s.tmps.length = s0.tmps.length) (hmk : s.marks = s0.marks) (htm : ∀ i, i ∉ D → s.tmps[i]? = s0.tmps[i]?) (hlen : s0.heap.length ≤ s.heap.length)
    (hun : ∀ (l : Nat) (o : Bool × AObj), s0.heap[l]? = some o → l ∉ ks → l ∉ boxesOf la ++ vecsOf la → ∃ f, s.heap[l]? = some (f, o.2)) (hd : Bool) :
    ∃ β', Rel C (enc hd s0 D ks la (KT.down xu)) β' a w ∧ ∀ β0 δ, β = β0 ++ δ → β0.length = s0.heap.length → ∃ δ', β' = β0 ++ δ' := by
  have ok := okL_ok ok
  obtain ⟨hl1, hl2⟩ := recsOf_ok h.bsize la xu ls e
  generalize hn : s0.heap.length = n0 at *
  have htk : (β.take n0).length = n0 := by simp [h.bsize]; omega
  let src : Nat → Option Nat := fun j => if j < n0 then some j else (ls[j - n0]?).join
  let β' : List Bl := β.take n0 ++ (recsOf β la ls).map (fun o => o.getD ⟨0, 0, 0, 0, 0, false, none⟩)
  have hβ : ∀ l, l < n0 → β'[l]? = β[l]? := fun l hl => by
    show (β.take n0 ++ _)[l]? = _
    rw [List.getElem?_append_left (by omega), List.getElem?_take]
    simp [hl]
  have hβ2 : ∀ (i : Nat) (o : Option Bl), (recsOf β la ls)[i]? = some o → β'[n0 + i]? = o := fun i o ho => by
    show (β.take n0 ++ _)[n0 + i]? = _
    rw [List.getElem?_append_right (by omega), htk, Nat.add_sub_cancel_left, List.getElem?_map, ho]
    have := hl2 o (List.mem_of_getElem? ho)
    cases o with
    | none => simp at this
    | some r => rfl
  have hβ3 : β'.length = n0 + ls.length := by
    show (β.take n0 ++ _).length = _
    rw [List.length_append, htk, List.length_map, hl1]
  have hnm : ∀ l, AllMarks C s0 l → l ∉ ks ∧ l ∉ boxesOf la ++ vecsOf la := by
    intro l hl
    have hm := hf.mks l hl
    refine ⟨fun hk => ?_, fun hb => ?_⟩
    · have := (ok.kk l hk).1; simp [hat, hm, AObj.isMark] at this
    · rcases List.mem_append.1 hb with hb | hb
      · obtain ⟨T, cs, _, _, hx, _⟩ := ok.bx l hb; simp [hat, hm] at hx
      · rcases vecs_cases hb with hb | hb
        · obtain ⟨_, hx⟩ := ok.vc l hb; simp [hat, hm, AObj.whole] at hx
        · have := ok.pc l hb
          have := (List.getElem?_eq_some_iff.1 hm).1
          omega
  have hAM : ∀ l, AllMarks C s l ↔ AllMarks C s0 l := fun l => by unfold AllMarks; rw [hmk]
  have hsrc0 : ∀ l, l < n0 → src l = some l := fun l hl => if_pos hl
  have I0 : Inv C s β β' a w src (junkAll D s0.tmps, baseHeapFrom hd ks (boxesOf la ++ vecsOf la) s0.heap 0) := by
    refine ⟨fun i x hx => ?_, fun j o hj => ?_, fun l hl => ?_, by rw [htl]; exact junkAll_len _ _⟩
    · by_cases hi : i ∈ D
      · rw [junkAll_in D _ hi x hx]; trivial
      · have hx : (junkAll D s0.tmps)[i]? = some x := hx
        rw [junkAll_tm D _ hi] at hx
        exact TV.R_pre hβ (by have := hf.tm i x hx; rwa [hn] at this) (h.tm i x (by rw [htm i hi]; exact hx))
    · have hj : (baseHeapFrom hd ks (boxesOf la ++ vecsOf la) s0.heap 0)[j]? = some o := hj
      rw [base_get] at hj
      cases h0 : s0.heap[j]? with
      | none => simp [h0] at hj
      | some p =>
        simp only [h0, Option.map_some, Option.some.injEq, Nat.zero_add] at hj
        have hjl : j < n0 := by have := (List.getElem?_eq_some_iff.1 h0).1; omega
        unfold baseObj at hj
        split at hj
        · subst hj; exact .inl rfl
        split at hj
        · rename_i hk hb
          subst hj
          rcases List.mem_append.1 (by simpa using hb) with hb | hb
          · obtain ⟨T, cs, cs', _, g1, g2, g3⟩ := ok.bx j hb
            have hp : p.2 = .box T cs := by simpa [hat, h0] using g1
            obtain ⟨f, r, q1, q2, vs, q3, q4, q5⟩ := h.obj g2 (by simp)
            refine .inr ⟨r, by rw [hβ j hjl]; exact q2, ?_, .inr ⟨j, _, hsrc0 j hjl, q1, q2, by simp [hp, AObj.clear, AObj.occ]⟩⟩
            simp only [hp, AObj.clear]
            refine ⟨vs, q3, q4, ?_⟩
            have := All2.len q5
            have key : ∀ (cs : List AV) (vs : List Value), cs.length = vs.length → All2 (AV.R w (C.N s.heap β w) (C.fresh s.heap β w) β') (cs.map fun _ => AV.junk) vs := by
              intro cs
              induction cs with
              | nil => intro vs hh; cases vs <;> simp at hh; trivial
              | cons c cs ih => intro vs hh; cases vs with
                | nil => simp at hh
                | cons v vs => exact ⟨trivial, ih vs (by simpa using hh)⟩
            exact key cs vs (by omega)
          · have hb : j ∈ wholeOf la := (vecs_cases hb).resolve_right fun hp => by have := ok.pc j hp; omega
            obtain ⟨_, hx⟩ := ok.vc j hb
            have hx : p.2.whole = true := by simpa [hat, h0] using hx
            refine .inl ?_
            show p.2.clear = .dead
            revert hx
            cases p.2 <;> simp [AObj.whole, AObj.clear]
        · rename_i hk hb
          obtain ⟨f, hfs⟩ := hun j p h0 (by simpa using hk) (by simpa using hb)
          have hlt := hf.ob j p h0
          rw [hn] at hlt
          obtain ⟨r, hr⟩ : ∃ r, β[j]? = some r := ⟨_, List.getElem?_eq_getElem (by rw [h.bsize]; omega)⟩
          subst hj
          refine .inr ⟨r, by rw [hβ j hjl]; exact hr, AObj.R_pre hβ hlt (h.ob j (f, p.2) r hfs hr), .inr ⟨j, _, hsrc0 j hjl, hfs, hr, rfl⟩⟩
    · rw [hAM] at hl
      have hm := hf.mks l hl
      obtain ⟨hk, hb⟩ := hnm l hl
      show (baseHeapFrom hd ks (boxesOf la ++ vecsOf la) s0.heap 0)[l]? = _
      rw [base_get, hm]
      simp only [Option.map_some, Nat.zero_add, baseObj]
      rw [if_neg (by simpa using hk), if_neg (by simpa using hb)]
      cases hd <;> rfl
  have hbl := base_len (hd := hd) (ks := ks) (bs := boxesOf la ++ vecsOf la) s0.heap 0
  rw [hn] at hbl
  have I := Inv.items h hd la xu ls _ e I0
    (fun i l hl => by
      show src ((baseHeapFrom hd ks (boxesOf la ++ vecsOf la) s0.heap 0).length + i) = l
      rw [hbl]
      show (if n0 + i < n0 then _ else _) = _
      rw [if_neg (by omega), Nat.add_sub_cancel_left, hl]; rfl)
    (fun i o ho => by
      show β'[(baseHeapFrom hd ks (boxesOf la ++ vecsOf la) s0.heap 0).length + i]? = o
      rw [hbl]; exact hβ2 i o ho)
    (fun l hl => by
      have hln : l < n0 := by
        rcases List.mem_append.1 hl with hb | hb
        · obtain ⟨_, _, _, q, _⟩ := ok.bx l hb; omega
        · have := (ok.vc l hb).1; omega
      exact ⟨hsrc0 l hln, hβ l hln, by show l < (baseHeapFrom hd ks (boxesOf la ++ vecsOf la) s0.heap 0).length; rw [hbl]; exact hln⟩)
    (fun l hl => by
      obtain ⟨T, cs, cs', q, g1, g2, g3⟩ := ok.bx l hl
      obtain ⟨f, hfs⟩ := hat_eq g1 (by simp)
      refine ⟨T, cs.map fun _ => .junk, ?_⟩
      show hat (baseHeapFrom hd ks (boxesOf la ++ vecsOf la) s0.heap 0) l = _
      unfold hat
      rw [base_get, hfs]
      simp only [Option.map_some, Nat.zero_add, baseObj]
      rw [if_neg (fun hk => (ok.kk l (by simpa using hk)).2 (by simp [hl])), if_pos (by simp [hl])]
      rfl)
    (fun l hl hv => by
      obtain ⟨T, cs, cs', q, g1, g2, g3⟩ := ok.bx l hl
      rcases vecs_cases hv with hv | hv
      · obtain ⟨_, hx⟩ := ok.vc l hv
        rw [g1] at hx; simp [AObj.whole] at hx
      · have := ok.pc l hv
        omega)
  obtain ⟨I, hil⟩ := I
  have hil : (encL hd la xu (junkAll D s0.tmps, baseHeapFrom hd ks (boxesOf la ++ vecsOf la) s0.heap 0)).2.length = n0 + ls.length := by
    rw [hil]; show (baseHeapFrom hd ks (boxesOf la ++ vecsOf la) s0.heap 0).length + _ = _; rw [hbl]
  refine ⟨β', ?_, ?_⟩
  · refine h.weaken _ β' src ?_ ?_ ?_ ?_ ?_ ?_ ?_ ?_
    · simp only [enc, KT.up_down]; rw [hil, hβ3]
    · simp only [enc, KT.up_down]; exact I.tl
    · exact hmk.symm
    · intro l hl
      simp only [enc, KT.up_down]
      refine ⟨I.im l (.inl hl), hβ l ?_⟩
      have := (List.getElem?_eq_some_iff.1 (hf.mks l ((hAM l).1 (.inl hl)))).1
      omega
    · intro i x hx
      simp only [enc, KT.up_down] at hx
      exact I.it i x hx
    · intro j o hj
      simp only [enc, KT.up_down] at hj
      exact I.io j o hj
    · intro j j' l o o' hj hj' ho ho' g g'
      simp only [enc, KT.up_down] at hj hj'
      have hdead : ∀ (i : Nat) (p : Bool × AObj), (encL hd la xu (junkAll D s0.tmps, baseHeapFrom hd ks (boxesOf la ++ vecsOf la) s0.heap 0)).2[i]? = some p → p.2 ≠ .dead → i < n0 → i ∉ ks := by
        intro i p hp hne hi hk
        rw [encL_keep la _ _ (by show i < (baseHeapFrom hd ks (boxesOf la ++ vecsOf la) s0.heap 0).length; omega) (ok.kk i hk).2] at hp
        have hp : (baseHeapFrom hd ks (boxesOf la ++ vecsOf la) s0.heap 0)[i]? = some p := hp
        rw [base_get] at hp
        cases h0 : s0.heap[i]? with
        | none => simp [h0] at hp
        | some q =>
          simp only [h0, Option.map_some, Option.some.injEq, Nat.zero_add, baseObj] at hp
          rw [if_pos (by simpa using hk)] at hp
          subst hp; exact hne rfl
      have inls : ∀ i, ¬ i < n0 → src i = some l → ls[i - n0]? = some (some l) := by
        intro i hi hs
        have hs : (if i < n0 then some i else (ls[i - n0]?).join) = some l := hs
        rw [if_neg hi] at hs
        cases hh : ls[i - n0]? with
        | none => simp [hh] at hs
        | some q => simp [hh] at hs; rw [hs]
      have low : ∀ i, i < n0 → src i = some l → i = l := fun i hi hs => by
        rw [hsrc0 i hi] at hs; simpa using hs
      by_cases h1 : j < n0 <;> by_cases h2 : j' < n0
      · rw [low j h1 g, low j' h2 g']
      · have e1 := low j h1 g
        rcases ok.ow l (List.mem_of_getElem? (inls j' h2 g')) with hk | hk
        · exact absurd (e1 ▸ hk) (hdead j o hj ho h1)
        · omega
      · have e1 := low j' h2 g'
        rcases ok.ow l (List.mem_of_getElem? (inls j h1 g)) with hk | hk
        · exact absurd (e1 ▸ hk) (hdead j' o' hj' ho' h2)
        · omega
      · have := nodupO_inj ok.nd (inls j h1 g) (inls j' h2 g')
        omega
    · intro f hff
      refine ⟨fun l hl => ?_, fun i x hx v hv => TV.R_pre hβ (by have := hf.frm f hff i x hx; rwa [hn] at this) hv⟩
      simp only [enc, KT.up_down]
      have ham : AllMarks C s l := .inr ⟨f, hff, hl⟩
      refine ⟨I.im l ham, hβ l ?_⟩
      have := (List.getElem?_eq_some_iff.1 (hf.mks l ((hAM l).1 ham))).1
      omega
  · intro β0 δ hb hb0
    have : β.take n0 = β0 := by rw [hb, ← hb0]; simp
    exact ⟨(recsOf β la ls).map (fun o => o.getD ⟨0, 0, 0, 0, 0, false, none⟩), by rw [← this]⟩

/-- The new state grows out of the one that it is told over. -/
theorem enc_ext {s0 : AS} {h : Heap} {D ks : List Nat} {la : List Item} {ls : List (Option Nat)} (ok : okL s0.heap h D ks la ls = true) (x : KT (LA.kinds la)) {β0 β' : List Bl} (hb : ∃ δ, β' = β0 ++ δ) :
    Ext (· ∈ D) s0 (enc false s0 D ks la x) β0 β' := by
  have ok := okL_ok ok
  refine ⟨hb, fun i hi => ?_, ?_, ?_, fun l o hl ho => ?_, ⟨[], rfl⟩, fun l hm => ?_⟩
  · show (encL false la _ _).1[i]? = _
    rw [encL_tm la _ _ (fun hh => hi (ok.sl i hh))]
    exact junkAll_tm D _ hi
  · show (encL false la _ _).1.length = _
    rw [encL_tl]; exact junkAll_len _ _
  · show _ ≤ (encL false la _ _).2.length
    refine Nat.le_trans ?_ (encL_le _ _ _)
    show _ ≤ (baseHeapFrom false ks (boxesOf la ++ vecsOf la) s0.heap 0).length
    rw [base_len]; exact Nat.le_refl _
  · have ho : (encL false la _ _).2[l]? = _ := ho
    have := encL_flag la _ _ (by show l < (baseHeapFrom false ks (boxesOf la ++ vecsOf la) s0.heap 0).length; rw [base_len]; exact hl) ho
    have this : (baseHeapFrom false ks (boxesOf la ++ vecsOf la) s0.heap 0)[l]? = some (false, o) := this
    rw [base_get] at this
    cases h0 : s0.heap[l]? with
    | none => simp [h0] at this
    | some p =>
      simp only [h0, Option.map_some, Option.some.injEq, Nat.zero_add, baseObj] at this
      split at this
      · simp at this
      split at this
      · simp at this
      · simp at this
        obtain ⟨e1, e2⟩ := this
        cases p; simp_all
  · have hnk : l ∉ ks := fun hk => by have := (ok.kk l hk).1; simp [hat, hm, AObj.isMark] at this
    have hnb : l ∉ boxesOf la ++ vecsOf la := fun hb => by
      rcases List.mem_append.1 hb with hb | hb
      · obtain ⟨T, cs, _, _, hx, _⟩ := ok.bx l hb; simp [hat, hm] at hx
      · rcases vecs_cases hb with hb | hb
        · obtain ⟨_, hx⟩ := ok.vc l hb; simp [hat, hm, AObj.whole] at hx
        · have := ok.pc l hb
          have := (List.getElem?_eq_some_iff.1 hm).1
          omega
    show (encL false la _ _).2[l]? = _
    rw [encL_keep la _ _ (by show l < (baseHeapFrom false ks (boxesOf la ++ vecsOf la) s0.heap 0).length; rw [base_len]; exact (List.getElem?_eq_some_iff.1 hm).1) hnb]
    show (baseHeapFrom false ks (boxesOf la ++ vecsOf la) s0.heap 0)[l]? = _
    rw [base_get, hm]
    simp only [Option.map_some, Nat.zero_add, baseObj]
    rw [if_neg (by simpa using hnk), if_neg (by simpa using hnb)]
    rfl
end
end Go.Proofs.AM
end

section
/- A step says the same wherever its operands and what it looks at are the same. -/
namespace Go.Proofs.AM
open Go Go.RowKit

/-- Whatever the one comes to, the other comes to as well. -/
def Two {α : Type} (f f' : (R : Type) → (α → Option R) → Option R) : Prop :=
  ∀ (R : Type) (k : α → Option R) (x : R), f R k = some x → ∃ t, k t = some x ∧ ∀ (R' : Type) (k' : α → Option R'), f' R' k' = k' t

def Sub (h h' : Heap) : Prop := ∀ l, hat h l = .dead ∨ hat h' l = hat h l

theorem Sub.refl (h : Heap) : Sub h h := fun _ => .inr rfl
theorem Sub.app (h δ : Heap) : Sub h (h ++ δ) := fun l => by
  unfold hat
  by_cases hl : l < h.length
  · right; rw [List.getElem?_append_left hl]
  · left; rw [List.getElem?_eq_none (by omega)]
theorem Sub.nil (h : Heap) : Sub [] h := fun l => .inl rfl

section
variable {P : Program} {h h' : Heap}

theorem two_ret {α : Type} (t : α) : Two (fun _ k => k t) (fun _ k => k t) := fun _ k x e => ⟨t, e, fun _ _ => rfl⟩

theorem cut_two {t : TypeId} {cs : List AV} {off : Nat} : Two (fun _ k => cut P t cs off k) (fun _ k => cut P t cs off k) := by
  intro R k x e
  dsimp only at e ⊢
  unfold cut at e ⊢
  split at e
  · rename_i i hu hi
    dsimp only at e ⊢
    split at e
    · rename_i hc
      split at e
      · rename_i tv hs
        refine ⟨tv, e, fun R' k' => ?_⟩
        first | rfl | rw [if_pos hc, hs] | rw [if_pos hc]
      · simp at e
    · simp at e
  · simp at e

theorem gd_pos {R : Type} {c : Prop} [Decidable c] {y : Option R} (h : c) : gd c y = y := if_pos h

theorem aload_two (hs : Sub h h') {t : TypeId} {a : AV} : Two (fun _ k => aload P h t a k) (fun _ k => aload P h' t a k) := by
  intro R k x e
  dsimp only at e ⊢
  cases a with
  | ptr l off =>
    simp only [aload] at e ⊢
    rcases hs l with hd | he
    · simp [hd] at e
    rw [he]
    split at e
    · exact cut_two R k x e
    · simp at e
  | ro q y off fr => exact cut_two R k x e
  | dat q y fr =>
    cases q with
    | rp q => exact cut_two R k x e
    | _ => simp [aload] at e
  | vp l i off =>
    simp only [aload] at e ⊢
    rcases hs l with hd | he
    · simp [hd] at e
    rw [he]
    split at e
    · obtain ⟨hg, e⟩ := gd_some e
      simp only [gd_pos hg]
      exact cut_two R k x e
    · simp at e
  | _ => simp [aload] at e

theorem szOk_two {e : TypeId} {n : Nat} {f f' : (R : Type) → (TV → Option R) → Option R} (hf : Two f f') : Two (fun R k => szOk P e n (f R k)) (fun R k => szOk P e n (f' R k)) := by
  intro R k x e
  dsimp only at e ⊢
  unfold szOk at e ⊢
  split at e
  · split at e
    · rename_i hs
      simp only [hs, if_true]
      exact hf R k x e
    · simp at e
  · simp at e

theorem gd_two {α : Type} {c : Prop} [Decidable c] {f f' : (R : Type) → (α → Option R) → Option R} (hf : Two f f') : Two (fun R k => gd c (f R k)) (fun R k => gd c (f' R k)) := by
  intro R k x e
  obtain ⟨hc, e⟩ := gd_some e
  simp only [gd_pos hc]
  exact hf R k x e

theorem abin_two {op : BinOp} {kx ky : IntKind} {m n : Int} : Two (fun _ k => abin op kx m ky n k) (fun _ k => abin op kx m ky n k) := by
  intro R k x e
  dsimp only at e ⊢
  by_cases hk : kx = ky
  · by_cases h0 : n = 0
    · cases op <;> simp only [abin, hk, h0, if_true] at e ⊢ <;> first
        | exact ⟨_, e, fun _ _ => rfl⟩
        | (obtain ⟨hc, e⟩ := gd_some e
           exact ⟨_, e, fun _ _ => gd_pos hc⟩)
        | simp at e
    · cases op <;> simp only [abin, hk, h0, if_true, if_false] at e ⊢ <;> first
        | exact ⟨_, e, fun _ _ => rfl⟩
        | (obtain ⟨hc, e⟩ := gd_some e
           exact ⟨_, e, fun _ _ => gd_pos hc⟩)
        | simp at e
  · cases op <;> simp only [abin, hk, if_false] at e ⊢ <;> first
        | exact ⟨_, e, fun _ _ => rfl⟩
        | (obtain ⟨hc, e⟩ := gd_some e
           exact ⟨_, e, fun _ _ => gd_pos hc⟩)
        | simp at e

theorem afieldAddr_two {f : Field} {a : AV} : Two (fun _ k => afieldAddr P f a k) (fun _ k => afieldAddr P f a k) := by
  intro R k x e
  dsimp only at e ⊢
  unfold afieldAddr at e ⊢
  split at e
  · simp at e
  rename_i hc
  simp only [hc, if_false]
  split at e
  · exact ⟨_, e, fun _ _ => rfl⟩
  · exact ⟨_, e, fun _ _ => rfl⟩
  · exact ⟨_, e, fun _ _ => rfl⟩
  · exact ⟨_, e, fun _ _ => rfl⟩
  · simp at e

theorem aindexAddr_two (hs : Sub h h') {t : TypeId} {a : AV} {i : Int} : Two (fun _ k => aindexAddr P h t a i k) (fun _ k => aindexAddr P h' t a i k) := by
  intro R k x e
  dsimp only at e ⊢
  cases a with
  | dat q y fr =>
    cases q with
    | sl q => exact szOk_two (gd_two (gd_two (two_ret _))) R k x e
    | _ => simp [aindexAddr] at e
  | vf l =>
    simp only [aindexAddr] at e ⊢
    rcases hs l with hd | he
    · simp [hd] at e
    rw [he]
    split at e
    · exact szOk_two (gd_two (gd_two (two_ret _))) R k x e
    · simp at e
  | vw l off len =>
    simp only [aindexAddr] at e ⊢
    rcases hs l with hd | he
    · simp [hd] at e
    rw [he]
    split at e
    · exact szOk_two (gd_two (gd_two (two_ret _))) R k x e
    · simp at e
  | _ => simp [aindexAddr] at e

theorem alen_two (hs : Sub h h') {a : AV} {n : Int} (e : alen h a = some n) : alen h' a = some n := by
  unfold alen at e ⊢
  split at e
  · exact e
  · exact e
  · rename_i l
    rcases hs l with hd | he
    · simp [hd] at e
    · rw [he]; exact e
  · exact e
  · simp at e

theorem asz_two (hs : Sub h h') {a : AV} {n : Nat} (e : asz h a = some n) : asz h' a = some n := by
  unfold asz at e ⊢
  split at e
  · exact e
  · rename_i l
    rcases hs l with hd | he
    · simp [hd] at e
    · rw [he]; exact e
  · rename_i l _ _
    rcases hs l with hd | he
    · simp [hd] at e
    · rw [he]; exact e
  · simp at e

theorem aslice_two {a : AV} {lo hi n : Int} : Two (fun _ k => aslice h a lo hi n k) (fun _ k => aslice h' a lo hi n k) := by
  refine gd_two (gd_two (gd_two ?_))
  intro R k x e
  dsimp only at e ⊢
  split at e
  · exact ⟨_, e, fun _ _ => rfl⟩
  · exact ⟨_, e, fun _ _ => rfl⟩
  · exact ⟨_, e, fun _ _ => rfl⟩
  · simp at e

theorem toD_two (hs : Sub h h') {k : K} {a : AV} {p : k.den × Bool} (e : AV.toD k (a.bor h) = some p) : AV.toD k (a.bor h') = some p := by
  cases a with
  | vf l =>
    simp only [AV.bor] at e ⊢
    rcases hs l with hd | he
    · simp [hd, AV.toD] at e
    rw [he]; exact e
  | vw l _ _ =>
    simp only [AV.bor] at e ⊢
    rcases hs l with hd | he
    · simp [hd, AV.toD] at e
    rw [he]; exact e
  | _ => exact e

theorem ofs_two (hs : Sub h h') (B : Bool) : ∀ (k : K) (l : List AV) (p : k.den × Bool × List AV), K.ofs h B k l = some p → K.ofs h' B k l = some p := by
  have cell : ∀ (k : K) (l : List AV) (p : k.den × Bool × List AV),
      (match l with
        | a :: l => match AV.toD k (if B then a.bor h else a) with
          | some (x, f) => some (x, f, l)
          | none => none
        | [] => none) = some p →
      (match l with
        | a :: l => match AV.toD k (if B then a.bor h' else a) with
          | some (x, f) => some (x, f, l)
          | none => none
        | [] => none) = some p := by
    intro k l p e
    cases l with
    | nil => simp at e
    | cons a l =>
      dsimp only at e ⊢
      cases B
      · exact e
      · simp only [if_true] at e ⊢
        split at e
        · rename_i y f hy
          rw [toD_two hs hy]; exact e
        · simp at e
  intro k
  induction k with
  | pair a b iha ihb =>
    intro l p e
    unfold K.ofs at e ⊢
    split at e
    · rename_i x f l1 h1
      rw [iha _ _ h1]
      dsimp only
      split at e
      · rename_i y g l2 h2
        rw [ihb _ _ h2]
        exact e
      · simp at e
    · simp at e
  | unit => intro l p e; exact e
  | rp k ih =>
    intro l p e
    cases l with
    | nil => simp [K.ofs] at e
    | cons a l =>
      cases a with
      | ptr m off =>
        simp only [K.ofs] at e ⊢
        rcases hs m with hd | he
        · cases B <;> simp [hd] at e
        rw [he]
        cases B
        · simp at e
        · cases hm : hat h m with
          | box T cs =>
            simp only [hm] at e ⊢
            split at e
            · rename_i x f l2 hx
              rw [ih _ _ hx]; exact e
            · simp at e
          | _ => simp [hm] at e
      | _ => exact e
  | int k => intro l p e; exact cell _ l p (by cases l <;> exact e) |> fun h => by cases l <;> exact h
  | bool => intro l p e; exact cell _ l p (by cases l <;> exact e) |> fun h => by cases l <;> exact h
  | str => intro l p e; exact cell _ l p (by cases l <;> exact e) |> fun h => by cases l <;> exact h
  | sl k _ => intro l p e; exact cell _ l p (by cases l <;> exact e) |> fun h => by cases l <;> exact h

theorem of_two (hs : Sub h h') {B : Bool} {k : K} {l : List AV} {p : k.den × Bool} (e : K.of h B k l = some p) : K.of h' B k l = some p := by
  unfold K.of at e ⊢
  split at e
  · rename_i x f hx
    rw [ofs_two hs B k l _ hx]; exact e
  · simp at e

theorem adec_two (hs : Sub h h') {B : Bool} : ∀ (ps : List (Bool × K)) (ts : List TV) (p : PDen ps × Bool), adec h B ps ts = some p → adec h' B ps ts = some p
  | [], [], p, e => e
  | [], _ :: _, p, e => by simp [adec] at e
  | _ :: _, [], p, e => by simp [adec] at e
  | (b, q) :: ps, t :: ts, p, e => by
    unfold adec at e ⊢
    cases b <;> cases t <;> dsimp only at e ⊢ <;> first
      | (split at e
         · rename_i x f y g h1 h2
           rw [adec_two hs ps ts _ h2, of_two hs h1]
           exact e
         · simp at e)
      | simp at e

theorem acall_two {Γ : Env} {r s : AS} (hs : Sub r.heap s.heap) {f : FuncId} {args : List TV} : Two (fun _ k => acall Γ r f args k) (fun _ k => acall Γ s f args k) := by
  intro R k x e
  dsimp only at e ⊢
  unfold acall at e ⊢
  split at e
  · simp at e
  rename_i c hc
  split at e
  · simp at e
  rename_i y fr hd
  simp only [adec_two hs _ _ _ hd]
  cases hm : c.model y with
  | none => simp [hm] at e
  | some z =>
    simp only [hm, Option.bind_some] at e ⊢
    split at e
    · rename_i tv ht
      exact ⟨tv, e, fun _ _ => by first | rfl | rw [ht]⟩
    · simp at e
end
end Go.Proofs.AM
end

section
/- Operations of two states. -/
namespace Go.Proofs.AM
open Go Go.RowKit

/-- Two states say the same of what an operation looks at. -/
def Like (o : Oper) (r s : AS) : Prop := ∀ x ∈ o.op.operands, s.ev x = r.ev x

section
variable {P : Program} {r s : AS} {o : Oper}

theorem map_ev {l : List Operand} (h : ∀ x ∈ l, s.ev x = r.ev x) : l.map s.ev = l.map r.ev := List.map_congr_left h

theorem abound_like {d : Int} {x : Option Operand} (h : ∀ y ∈ x.toArray, s.ev y = r.ev y) : abound s d x = abound r d x := by
  cases x with
  | none => rfl
  | some y => simp only [abound]; rw [h y (by simp)]

theorem aval_two (hev : Like o r s) (hs : Sub r.heap s.heap) : Two (fun _ k => aval P r o k) (fun _ k => aval P s o k) := by
  intro R k x e
  dsimp only at e ⊢
  unfold aval at e ⊢
  unfold Like at hev
  cases hop : o.op with
  | move y =>
    simp only [hop, Op.operands] at e hev ⊢
    rw [hev y (by simp)]
    exact ⟨_, e, fun _ _ => rfl⟩
  | assign y =>
    simp only [hop, Op.operands] at e hev ⊢
    rw [hev y (by simp)]
    exact ⟨_, e, fun _ _ => rfl⟩
  | pick c y z =>
    simp only [hop, Op.operands] at e hev ⊢
    rw [hev c (by simp), hev y (by simp), hev z (by simp)]
    generalize r.ev c = u at e ⊢
    generalize r.ev y = v at e ⊢
    generalize r.ev z = t at e ⊢
    split at e
    · rename_i b f
      split at e
      · exact ⟨_, e, fun _ _ => rfl⟩
      · cases b
        · exact ⟨t, e, fun _ _ => by first | rfl | (split <;> rfl)⟩
        · exact ⟨v, e, fun _ _ => by first | rfl | (split <;> rfl)⟩
    · simp at e
  | load t y =>
    simp only [hop, Op.operands] at e hev ⊢
    rw [hev y (by simp)]
    generalize r.ev y = u at e ⊢
    split at e
    · exact aload_two hs R k x e
    · simp at e
  | nilCheck y =>
    simp only [hop, Op.operands] at e hev ⊢
    rw [hev y (by simp)]
    generalize r.ev y = u at e ⊢
    split at e
    · exact ⟨_, e, fun _ _ => rfl⟩
    · exact ⟨_, e, fun _ _ => rfl⟩
    · exact ⟨_, e, fun _ _ => rfl⟩
    · exact ⟨_, e, fun _ _ => rfl⟩
    · simp at e
  | binOp op t y z t' =>
    simp only [hop, Op.operands] at e hev ⊢
    rw [hev y (by simp), hev z (by simp)]
    generalize r.ev y = u at e ⊢
    generalize r.ev z = v at e ⊢
    split at e
    · exact abin_two R k x e
    · split at e
      · simp at e
      rename_i hgd
      split at e
      · split at e
        · exact ⟨_, e, fun _ _ => if_neg hgd⟩
        · simp at e
      · split at e
        · exact ⟨_, e, fun _ _ => if_neg hgd⟩
        · simp at e
      · simp at e
    · split at e
      · rename_i b hb
        split at e
        · exact ⟨_, e, fun _ _ => by simp only [hb]⟩
        · exact ⟨_, e, fun _ _ => by simp only [hb]⟩
        · simp at e
      · simp at e
    · simp at e
  | unOp op t y =>
    simp only [hop, Op.operands] at e hev ⊢
    rw [hev y (by simp)]
    generalize r.ev y = u at e ⊢
    split at e
    · exact ⟨_, e, fun _ _ => rfl⟩
    · exact ⟨_, e, fun _ _ => rfl⟩
    · simp at e
  | convert t t' y =>
    simp only [hop, Op.operands] at e hev ⊢
    rw [hev y (by simp)]
    generalize r.ev y = u at e ⊢
    split at e
    · exact ⟨_, e, fun _ _ => rfl⟩
    · split at e
      rotate_left
      · simp at e
      split at e
      rotate_left
      · simp at e
      rename_i hbo
      exact ⟨_, e, fun _ _ => by simp only [toD_two hs hbo]⟩
    · simp at e
  | makeFunc f first captured =>
    have hf : ∃ g, f = .func g := by
      cases f with
      | func g => exact ⟨g, rfl⟩
      | _ => simp [hop] at e
    obtain ⟨f, rfl⟩ := hf
    simp only [hop, Op.operands] at e hev ⊢
    have hc : captured.toList.map s.ev = captured.toList.map r.ev := map_ev fun y hy => hev y (by simp [Array.mem_toList_iff.1 hy])
    rw [hc]
    generalize captured.toList.map r.ev = u at e ⊢
    split at e
    · exact ⟨_, e, fun _ _ => rfl⟩
    · simp at e
  | extract y i =>
    simp only [hop, Op.operands] at e hev ⊢
    rw [hev y (by simp)]
    generalize r.ev y = u at e ⊢
    split at e
    · split at e
      · split at e
        · exact ⟨_, e, fun _ _ => rfl⟩
        · simp at e
      · simp at e
    · simp at e
  | fieldAddr t y i =>
    simp only [hop, Op.operands] at e hev ⊢
    rw [hev y (by simp)]
    generalize r.ev y = u at e ⊢
    split at e
    · exact afieldAddr_two R k x e
    · simp at e
  | field t y i =>
    simp only [hop, Op.operands] at e hev ⊢
    rw [hev y (by simp)]
    generalize r.ev y = u at e ⊢
    split at e
    · exact cut_two R k x e
    · simp at e
  | indexAddr t y i =>
    simp only [hop, Op.operands] at e hev ⊢
    rw [hev y (by simp), hev i (by simp)]
    generalize r.ev y = u at e ⊢
    generalize r.ev i = v at e ⊢
    split at e
    · exact aindexAddr_two hs R k x e
    · simp at e
  | slice t y lo hi mx =>
    cases mx with
    | some mx =>
      cases lo with
      | some _ => simp [hop] at e
      | none =>
        cases hi with
        | none => simp [hop] at e
        | some hi =>
          simp only [hop, Op.operands] at e hev ⊢
          rw [hev y (by simp), hev hi (by simp), hev mx (by simp)]
          generalize r.ev y = u at e ⊢
          generalize r.ev hi = v1 at e ⊢
          generalize r.ev mx = v2 at e ⊢
          split at e
          rotate_left
          · simp at e
          unfold aslice3 at e ⊢
          split at e
          rotate_left
          · simp at e
          rename_i hn
          rw [alen_two hs hn]
          obtain ⟨g1, e1⟩ := gd_some e; clear e
          obtain ⟨g2, e2⟩ := gd_some e1; clear e1
          obtain ⟨g3, e⟩ := gd_some e2; clear e2
          split at e
          · exact ⟨_, e, fun _ _ => by simp only [gd_pos g1, gd_pos g2, gd_pos g3]⟩
          · simp at e
    | none =>
      simp only [hop, Op.operands] at e hev ⊢
      rw [hev y (by simp)]
      generalize r.ev y = u at e ⊢
      split at e
      · split at e
        · rename_i n z h1 h2
          rw [alen_two hs h1, asz_two hs h2]
          dsimp only
          rw [abound_like (r := r) (fun v hv => hev v (by simp at hv ⊢; simp [hv])), abound_like (r := r) (fun v hv => hev v (by simp at hv ⊢; simp [hv]))]
          split at e
          · exact szOk_two aslice_two R k x e
          · simp at e
        · simp at e
      · simp at e
  | build t parts =>
    simp only [hop, Op.operands] at e hev ⊢
    have hc : (parts.toList.map fun p => (p.1, s.ev p.2)) = parts.toList.map fun p => (p.1, r.ev p.2) := List.map_congr_left fun p hp => by
      rw [hev p.2 (by simp only [List.mem_toArray, List.mem_map]; exact ⟨p, hp, rfl⟩)]
    have hc' : (parts.toList.map fun (i, x) => (i, s.ev x)) = parts.toList.map fun (i, x) => (i, r.ev x) := hc
    rw [hc']
    generalize (parts.toList.map fun (i, x) => (i, r.ev x)) = u at e ⊢
    split at e
    · split at e
      · exact ⟨_, e, fun _ _ => rfl⟩
      · simp at e
    · simp at e
  | call c =>
    simp only [hop, Op.operands, Call.operands] at e hev ⊢
    have hc : c.args.toList.map s.ev = c.args.toList.map r.ev := map_ev fun y hy => hev y (by simp [Array.mem_toList_iff.1 hy])
    have hc1 : ∀ y ∈ c.args.toList, s.ev y = r.ev y := fun y hy => hev y (by simp [Array.mem_toList_iff.1 hy])
    unfold abuiltin at e ⊢
    rw [hc]
    generalize c.args.toList.map r.ev = u at e ⊢
    generalize c.args.toList = l at e hc1 ⊢
    split at e
    · split at e
      · rename_i y t _
        rw [hc1 y (by simp)]
        generalize r.ev y = v at e ⊢
        split at e
        · split at e
          · rename_i n hn
            rw [alen_two hs hn]
            exact ⟨_, e, fun _ _ => rfl⟩
          · simp at e
        · rename_i l _
          split at e
          · rename_i hu hh
            have hx : hat s.heap l = hat r.heap l := (hs l).resolve_left (by rw [hh]; simp)
            rw [hx]
            exact ⟨_, e, fun _ _ => by simp only [hu, hh]⟩
          · simp at e
        · simp at e
      · simp at e
    · split at e
      · exact ⟨_, e, fun _ _ => rfl⟩
      · simp at e
    · split at e
      · exact ⟨_, e, fun _ _ => rfl⟩
      · simp at e
    · simp at e
  | makeInterface t y =>
    simp only [hop, Op.operands] at e hev ⊢
    rw [hev y (by simp)]
    generalize r.ev y = u at e ⊢
    split at e
    · simp at e
    · rename_i d av hne hd
      split at e
      · simp at e
      · refine ⟨_, e, fun _ _ => ?_⟩
        rfl
    · simp at e
  | _ => simp [hop] at e
end
end Go.Proofs.AM
end

section
/- Steps of two states: those that read, those that turn memory. -/
namespace Go.Proofs.AM
open Go Go.RowKit

def isEff (Γ : Env) (o : Oper) : Bool := match o.op with
  | .alloc _ | .box _ _ | .store _ _ _ | .makeMap _ _ | .mapUpdate _ _ _ _ | .range _ _ => true
  | .makeSlice _ _ _ | .buildSlice _ _ _ => !Γ.im o
  | .slice _ _ _ _ _ => Γ.im o
  | .call c => match c.callee with
    | .builtin .append => !Γ.im o
    | .builtin .copy | .builtin .delete => true
    | .value (.func f) => (Γ.hd f).isSome && !Γ.im o
    | _ => false
  | _ => false

/-- Only a new object. -/
def isPush (Γ : Env) (o : Oper) : Bool := match o.op with
  | .alloc _ | .box _ _ | .makeSlice _ _ _ | .buildSlice _ _ _ | .makeMap _ _ => true
  | .call c => match c.callee with
    | .builtin .append => match c.args.toList with
      | .const (.slice none 0 0) :: _ => true
      | _ => false
    | .value (.func f) => match Γ.hd f with
      | some d => d.push
      | none => false
    | _ => false
  | _ => false

/-- A new row of cells, as data. -/
def amakeV (P : Program) (s : AS) (t : TypeId) (x y : Operand) {R : Type} (k : TV → Option R) : Option R :=
  match aelem P t, s.ev x, s.ev y with
  | some e, .one (.dat (.int .i64) n _), .one (.dat (.int .i64) m _) => match P.info? e, kindOf P 30 e, azero P e with
    | some i, some q, some z => match K.of s.heap false q z with
      | some (zd, true) => if i.size = q.size ∧ 0 < i.size ∧ 0 < i.bytes then gd (0 ≤ n) (gd (n ≤ m) (gd (m * i.bytes ≤ 140737488355328) (k (.one (.dat (.sl q) (List.replicate n.toNat zd) true))))) else none
      | _ => none
    | _, _, _ => none
  | _, _, _ => none

def abuildV (P : Program) (s : AS) (t : TypeId) (n : Nat) (parts : List (Nat × Operand)) {R : Type} (k : TV → Option R) : Option R :=
  match aelem P t with
  | none => none
  | some e => match P.info? e, kindOf P 30 e, azero P e with
    | some i, some q, some z => if i.size = q.size ∧ z.length = q.size ∧ parts.length = n ∧ n * i.size ≤ 16777216 then
        match aelems s.heap q 0 (parts.map fun p => (p.1, s.ev p.2)) with
        | some (xs, f) => k (.one (.dat (.sl q) xs f))
        | none => none
      else none
    | _, _, _ => none

/-- A reading step, as a value. -/
def avc (P : Program) (Γ : Env) (s : AS) (o : Oper) {R : Type} (k : TV → Option R) : Option R := match o.op with
  | .call c => match c.callee with
    | .builtin .append => aappendV P s c k
    | .builtin _ => aval P s o k
    | .value f => match s.ev f with
      | .one (.fn fid caps) => match Γ.hd fid with
        | none => acall Γ s fid (c.args.toList.map s.ev ++ caps.map (fun l => .one (.ptr l 0))) k
        | some _ => match Γ.im o with
          | true => acall Γ s fid (c.args.toList.map s.ev ++ caps.map (fun l => .one (.ptr l 0))) k
          | false => none
      | _ => none
    | _ => none
  | .makeSlice t x y => amakeV P s t x y k
  | .buildSlice t n parts => abuildV P s t n parts.toList k
  | .lookup t x i ok => alookup P s.heap t (s.ev x) (s.ev i) ok k
  | .entry x => aentry s.heap (s.ev x) k
  | _ => aval P s o k

section
variable {P : Program} {Γ : Env} {r s : AS} {o : Oper}

theorem astep_avc (h : isEff Γ o = false) {R : Type} (k : AS → Option R) : astep P Γ s o k = avc P Γ s o (fun tv => k (s.put o.dst tv)) := by
  unfold isEff at h
  unfold astep avc
  cases hop : o.op with
  | call c =>
    simp only [hop] at h ⊢
    cases hc : c.callee with
    | builtin b => cases b <;> simp [hc] at h ⊢ <;> simp [h]
    | value f =>
      simp only [hc] at h ⊢
      generalize hu : s.ev f = u
      cases u with
      | one a => cases a with
        | fn fid caps =>
          simp only
          cases hd : Γ.hd fid with
          | none => rfl
          | some d =>
            simp only
            cases him : Γ.im o with
            | true => rfl
            | false =>
              cases f with
              | func g =>
                simp only [AS.ev, TV.one.injEq, AV.fn.injEq] at hu
                obtain ⟨rfl, _⟩ := hu
                simp [hd, him] at h
              | _ => rfl
        | _ => rfl
      | _ => rfl
    | invoke _ _ => rfl
  | makeSlice t x y =>
    simp only [hop, Bool.not_eq_false'] at h
    simp only [h]
    unfold amake amakeV
    split
    · rename_i e n f1 m f2 h1 h2 h3
      simp only [h1, h2, h3]
      split
      · rename_i i q z g1 g2 g3
        simp only [g1, g2, g3]
        split
        · rename_i zd hz
          simp only [hz]; rfl
        · rename_i hno
          split
          · rename_i zd hz; exact (hno zd hz).elim
          · rfl
      · rename_i hno
        split
        · rename_i i q z g1 g2 g3; exact (hno i q z g1 g2 g3).elim
        · rfl
    · rename_i hno
      split
      · rename_i e n f1 m f2 h1 h2 h3; exact (hno e n f1 m f2 h1 h2 h3).elim
      · rfl
  | buildSlice t n parts =>
    simp only [hop, Bool.not_eq_false'] at h
    simp only [h]
    unfold abuildSlice abuildV
    split
    · rename_i h1; simp only [h1]
    · rename_i e h1
      simp only [h1]
      split
      · rename_i i q z g1 g2 g3
        simp only [g1, g2, g3]
        split
        · split
          · rename_i xs f hx; simp only [hx]; rfl
          · rename_i hx; simp only [hx]
        · rfl
      · rename_i hno
        split
        · rename_i i q z g1 g2 g3; exact (hno i q z g1 g2 g3).elim
        · rfl
  | slice ty y lo hi mx => simp [hop] at h ⊢; simp only [h]
  | _ => simp [hop] at h ⊢

theorem aelems_two {h h' : Heap} (hs : Sub h h') {q : K} : ∀ (n : Nat) (l : List (Nat × TV)) (p : List q.den × Bool), aelems h q n l = some p → aelems h' q n l = some p
  | _, [], p, e => e
  | n, (i, t) :: r, p, e => by
    unfold aelems at e ⊢
    split at e
    · rename_i hc
      rw [if_pos hc]
      split at e
      · rename_i x f xs g h1 h2
        rw [of_two hs h1, aelems_two hs (n + 1) r _ h2]
        exact e
      · simp at e
    · simp at e

theorem amakeV_two {t : TypeId} {x y : Operand} (h1 : s.ev x = r.ev x) (h2 : s.ev y = r.ev y) (hs : Sub r.heap s.heap) : Two (fun _ k => amakeV P r t x y k) (fun _ k => amakeV P s t x y k) := by
  intro R k v e
  dsimp only at e ⊢
  unfold amakeV at e ⊢
  rw [h1, h2]
  generalize r.ev x = u1 at e ⊢
  generalize r.ev y = u2 at e ⊢
  split at e
  · split at e
    · split at e
      · rename_i zd hz
        rw [of_two hs hz]
        split at e
        · rename_i hc
          obtain ⟨g1, e⟩ := gd_some e
          obtain ⟨g2, e⟩ := gd_some e
          obtain ⟨g3, e⟩ := gd_some e
          exact ⟨_, e, fun _ _ => by simp only [if_pos hc, gd_pos g1, gd_pos g2, gd_pos g3]⟩
        · simp at e
      · simp at e
    · simp at e
  · simp at e

theorem abuildV_two {t : TypeId} {n : Nat} {parts : List (Nat × Operand)} (h : ∀ p ∈ parts, s.ev p.2 = r.ev p.2) (hs : Sub r.heap s.heap) : Two (fun _ k => abuildV P r t n parts k) (fun _ k => abuildV P s t n parts k) := by
  intro R k v e
  dsimp only at e ⊢
  unfold abuildV at e ⊢
  have hm : (parts.map fun p => (p.1, s.ev p.2)) = parts.map fun p => (p.1, r.ev p.2) := List.map_congr_left fun p hp => by rw [h p hp]
  rw [hm]
  split at e
  · simp at e
  · split at e
    · split at e
      · rename_i hc
        split at e
        · rename_i xs f hx
          exact ⟨_, e, fun _ _ => by simp only [if_pos hc, aelems_two hs _ _ _ hx]⟩
        · simp at e
      · simp at e
    · simp at e

theorem hat_sub {h h' : Heap} (hs : Sub h h') {l : Nat} {o : AObj} (e : hat h l = o) (hne : o ≠ .dead) : hat h' l = o := by
  rcases hs l with hd | hd
  · rw [e] at hd; exact absurd hd hne
  · rw [hd, e]

theorem decT_two {h h' : Heap} (hs : Sub h h') {k : Bool × K} {t : TV} {p : k.2.den × Bool} (e : decT h k t = some p) : decT h' k t = some p := by
  unfold decT at e ⊢
  split at e
  · split at e
    · exact of_two hs e
    · simp at e
  · split at e
    · simp at e
    · exact of_two hs e
  · simp at e

theorem zeroD_two {h h' : Heap} (hs : Sub h h') {t : TypeId} {k : Bool × K} {z : k.2.den} (e : zeroD P h t k = some z) : zeroD P h' t k = some z := by
  unfold zeroD at e ⊢
  split at e
  · split at e
    · split at e
      · rename_i hz; rw [decT_two hs hz]; exact e
      · simp at e
    · simp at e
  · simp at e

theorem alookup_two {h h' : Heap} (hs : Sub h h') {t : TypeId} {x i : TV} {ok : Bool} : Two (fun _ k => alookup P h t x i ok k) (fun _ k => alookup P h' t x i ok k) := by
  intro R k v e
  dsimp only at e ⊢
  unfold alookup at e ⊢
  split at e
  · rename_i kt vt l hu
    split at e
    · rename_i ki vi es fr ho
      rw [hat_sub hs ho (by simp)]
      split at e
      · rename_i hk
        split at e
        · rename_i xk f z h1 h2
          cases ok with
          | true => exact ⟨_, e, fun _ _ => by simp only [if_pos hk, decT_two hs h1, zeroD_two hs h2]⟩
          | false =>
            dsimp only at e
            split at e
            · rename_i tv htv
              exact ⟨_, e, fun _ _ => by simp only [if_pos hk, decT_two hs h1, zeroD_two hs h2, htv]⟩
            · simp at e
        · simp at e
      · simp at e
    · simp at e
  · simp at e

theorem aentry_two {h h' : Heap} (hs : Sub h h') {x : TV} : Two (fun _ k => aentry h x k) (fun _ k => aentry h' x k) := by
  intro R k v e
  dsimp only at e ⊢
  unfold aentry at e ⊢
  split at e
  · rename_i l
    split at e
    · rename_i ho
      rw [hat_sub hs ho (by simp)]
      exact ⟨_, e, fun _ _ => rfl⟩
    · simp at e
  · simp at e

theorem aappendV_two {c : Call} (hev : c.args.toList.map s.ev = c.args.toList.map r.ev) (hs : Sub r.heap s.heap) : Two (fun _ k => aappendV P r c k) (fun _ k => aappendV P s c k) := by
  intro R k v e
  dsimp only at e ⊢
  unfold aappendV at e ⊢
  split at e
  rotate_left
  · simp at e
  rename_i x y t t' ha ht
  rw [ha] at hev
  simp only [List.map_cons, List.map_nil, List.cons.injEq, and_true] at hev
  rw [hev.1, hev.2]
  generalize r.ev x = u1 at e ⊢
  generalize r.ev y = u2 at e ⊢
  split at e
  rotate_left
  · simp at e
  rename_i htt
  split at e
  rotate_left
  · simp at e
  rename_i e' b h1
  split at e
  rotate_left
  · simp at e
  rename_i q ys fr2 hb
  have hb' : b.bor s.heap = .dat (.sl q) ys fr2 := by
    cases b <;> simp only [AV.bor] at hb ⊢ <;> first | exact hb | skip
    all_goals
      split at hb
      · rename_i ho
        rw [hat_sub hs ho (by simp)]
        exact hb
      · simp at hb
  split at e
  rotate_left
  · simp at e
  rename_i i z h2 h3
  split at e
  rotate_left
  · simp at e
  rename_i hc
  obtain ⟨g1, e⟩ := gd_some e
  obtain ⟨g2, e⟩ := gd_some e
  exact ⟨_, e, fun _ _ => by simp only [if_pos htt, h1, hb', h2, h3, if_pos hc, gd_pos g1, gd_pos g2]⟩

theorem avc_two (hev : Like o r s) (hs : Sub r.heap s.heap) : Two (fun _ k => avc P Γ r o k) (fun _ k => avc P Γ s o k) := by
  intro R k x e
  dsimp only at e ⊢
  unfold avc at e ⊢
  cases hop : o.op with
  | call c =>
    simp only [hop] at e ⊢
    cases hc : c.callee with
    | builtin b =>
      cases b with
      | append =>
        simp only [hc] at e ⊢
        unfold Like at hev
        simp only [hop, Op.operands, Call.operands, hc] at hev
        exact aappendV_two (map_ev fun y hy => hev y (by simp [Array.mem_toList_iff.1 hy])) hs R k x e
      | _ => simp only [hc] at e ⊢; exact aval_two hev hs R k x e
    | value f =>
      simp only [hc] at e ⊢
      unfold Like at hev
      simp only [hop, Op.operands, Call.operands, hc] at hev
      have h1 : c.args.toList.map s.ev = c.args.toList.map r.ev := map_ev fun y hy => hev y (by simp [Array.mem_toList_iff.1 hy])
      rw [hev f (by simp), h1]
      generalize r.ev f = u at e ⊢
      split at e
      · split at e
        · exact acall_two hs R k x e
        · split at e
          · exact acall_two hs R k x e
          · simp at e
      · simp at e
    | invoke _ _ => simp [hc] at e
  | makeSlice t y z =>
    simp only [hop] at e ⊢
    unfold Like at hev
    simp only [hop, Op.operands] at hev
    exact amakeV_two (hev y (by simp)) (hev z (by simp)) hs R k x e
  | buildSlice t n parts =>
    simp only [hop] at e ⊢
    unfold Like at hev
    simp only [hop, Op.operands] at hev
    exact abuildV_two (fun p hp => hev p.2 (by simp only [List.mem_toArray, List.mem_map]; exact ⟨p, hp, rfl⟩)) hs R k x e
  | lookup t y i ok =>
    simp only [hop] at e ⊢
    unfold Like at hev
    simp only [hop, Op.operands] at hev
    rw [hev y (by simp), hev i (by simp)]
    exact alookup_two hs R k x e
  | entry y =>
    simp only [hop] at e ⊢
    unfold Like at hev
    simp only [hop, Op.operands] at hev
    rw [hev y (by simp)]
    exact aentry_two hs R k x e
  | _ => simp only [hop] at e ⊢; exact aval_two hev hs R k x e

/-- A step that reads says the same wherever it is taken. -/
theorem step_read (hn : isEff Γ o = false) {R : Type} {k : AS → Option R} {x : R} (e : astep P Γ r o k = some x) :
    ∃ t, k (r.put o.dst t) = some x ∧ ∀ s, Like o r s → Sub r.heap s.heap → ∀ (R' : Type) (k' : AS → Option R'), astep P Γ s o k' = k' (s.put o.dst t) := by
  rw [astep_avc hn] at e
  obtain ⟨t, h1, h2⟩ := avc_two (P := P) (Γ := Γ) (o := o) (r := r) (s := r) (fun _ _ => rfl) (Sub.refl _) R _ x e
  refine ⟨t, h1, fun s hl hs R' k' => ?_⟩
  obtain ⟨t', h3, h4⟩ := avc_two (P := P) (Γ := Γ) hl hs TV some t (h2 TV some)
  simp only [Option.some.injEq] at h3
  subst h3
  rw [astep_avc hn]
  exact h4 _ _

/-- A step that turns memory says the same wherever it meets the same memory. -/
def EffTwo (P : Program) (Γ : Env) (r : AS) (o : Oper) {R : Type} (k : AS → Option R) (x : R) : Prop :=
  ∃ t h', k ({ r with heap := h' }.put o.dst t) = some x ∧ (isPush Γ o = true → ∃ δ, h' = r.heap ++ δ) ∧
    ∀ s : AS, Like o r s → s.heap = r.heap → ∀ (R' : Type) (k' : AS → Option R'), astep P Γ s o k' = k' ({ s with heap := h' }.put o.dst t)

theorem push_eq {o : AObj} : s.push o = { s with heap := s.heap ++ [(true, o)] } := rfl
theorem upd_eq {l : Nat} {o : AObj} : s.upd l o = { s with heap := s.heap.set l (true, o) } := rfl

theorem astore_two {t : TypeId} {d : AV} {v : TV} {R : Type} {k : AS → Option R} {x : R} (e : astore P r t d v k = some x) :
    ∃ h', k { r with heap := h' } = some x ∧ ∀ s : AS, s.heap = r.heap → ∀ (R' : Type) (k' : AS → Option R'), astore P s t d v k' = k' { s with heap := h' } := by
  unfold astore at e
  split at e
  · simp at e
  rename_i i hi
  split at e
  rotate_left
  · simp at e
  rename_i hc
  split at e
  · rename_i l off
    split at e
    · rename_i T cs hl
      split at e
      · rename_i hb
        refine ⟨_, e, fun s hs R' k' => ?_⟩
        simp only [astore, hi, if_pos hc, hs, hl, if_pos hb, upd_eq]
      · simp at e
    · simp at e
  · rename_i l j off
    split at e
    · rename_i T q xs fr hl
      split at e
      · rename_i hb
        obtain ⟨hg, e⟩ := gd_some e
        split at e
        · rename_i y f hy
          refine ⟨_, e, fun s hs R' k' => ?_⟩
          simp only [astore, hi, if_pos hc, hs, hl, if_pos hb, gd_pos hg, hy, upd_eq]
        · simp at e
      · simp at e
    · simp at e
  · simp at e

theorem kill_heap {l : Option Nat} (h : s.heap = r.heap) : s.kill l = { s with heap := (r.kill l).heap } := by
  cases l with
  | none => simp [AS.kill, ← h]
  | some l => simp [AS.kill, upd_eq, h]

theorem eff_two (he : isEff Γ o = true) {R : Type} {k : AS → Option R} {x : R} (e : astep P Γ r o k = some x) : EffTwo P Γ r o k x := by
  unfold isEff at he
  unfold EffTwo Like
  cases hop : o.op with
  | alloc t =>
    simp only [astep, hop] at e
    split at e
    · rename_i cs hz
      refine ⟨.one (.ptr r.heap.length 0), r.heap ++ [(true, AObj.box t cs)], e, fun _ => ⟨_, rfl⟩, fun s _ hs R' k' => ?_⟩
      simp only [astep, hop, hz, push_eq, hs]
    · simp at e
  | box t y =>
    simp only [astep, hop] at e
    split at e
    · rename_i hz
      refine ⟨.one (.ptr r.heap.length 0), r.heap ++ [(true, AObj.box t (r.ev y).cells)], e, fun _ => ⟨_, rfl⟩, fun s hl hs R' k' => ?_⟩
      simp only [Op.operands] at hl
      have hy := hl y (by simp)
      simp only [astep, hop, hy, if_pos hz, push_eq, hs]
    · simp at e
  | store t y z =>
    simp only [astep, hop] at e
    split at e
    · rename_i d hd
      obtain ⟨h', h1, h2⟩ := astore_two e
      refine ⟨.one .junk, h', h1, fun hp => by simp [isPush, hop] at hp, fun s hl hs R' k' => ?_⟩
      simp only [Op.operands] at hl
      have hy := hl y (by simp)
      have hz := hl z (by simp)
      simp only [astep, hop, hy, hz, hd]
      exact h2 s hs _ _
    · simp at e
  | makeSlice t y z =>
    have him : Γ.im o = false := by simpa [hop] using he
    simp only [astep, hop, amake, him, AS.made] at e
    split at e
    rotate_left
    · simp at e
    rename_i e' n fr1 m fr2 h1 h2 h3
    split at e
    rotate_left
    · simp at e
    rename_i i q zz h4 h5 h6
    split at e
    rotate_left
    · simp at e
    rename_i zd h7
    split at e
    rotate_left
    · simp at e
    rename_i hc
    obtain ⟨g1, e⟩ := gd_some e
    obtain ⟨g2, e⟩ := gd_some e
    obtain ⟨g3, e⟩ := gd_some e
    refine ⟨.one (.vf r.heap.length), _, e, fun _ => ⟨_, rfl⟩, fun s hl hs R' k' => ?_⟩
    simp only [Op.operands] at hl
    have hy := hl y (by simp)
    have hz := hl z (by simp)
    simp only [astep, hop, amake, him, AS.made, hy, hz, h1, h2, h3, h4, h5, h6, hs, h7, if_pos hc, gd_pos g1, gd_pos g2, gd_pos g3, push_eq]
  | buildSlice t n parts =>
    have him : Γ.im o = false := by simpa [hop] using he
    simp only [astep, hop, abuildSlice, him, AS.made] at e
    split at e
    · simp at e
    rename_i e' h1
    split at e
    rotate_left
    · simp at e
    rename_i i q z h2 h3 h4
    split at e
    rotate_left
    · simp at e
    rename_i hc
    split at e
    rotate_left
    · simp at e
    rename_i xs f h5
    refine ⟨.one (.vf r.heap.length), _, e, fun _ => ⟨_, rfl⟩, fun s hl hs R' k' => ?_⟩
    simp only [Op.operands] at hl
    have hm : (parts.toList.map fun p => (p.1, s.ev p.2)) = parts.toList.map fun p => (p.1, r.ev p.2) := List.map_congr_left fun p hp => by
      rw [hl p.2 (by simp only [List.mem_toArray, List.mem_map]; exact ⟨p, hp, rfl⟩)]
    simp only [astep, hop, abuildSlice, him, AS.made, h1, h2, h3, h4, if_pos hc, hm, hs, h5, push_eq]
  | call c =>
    simp only [hop] at he
    cases hc : c.callee with
    | value f =>
      cases f with
      | func g =>
        simp only [hc] at he
        simp only [Bool.and_eq_true, Bool.not_eq_true'] at he
        obtain ⟨he, him⟩ := he
        obtain ⟨d, hd⟩ := Option.isSome_iff_exists.1 he
        have hops : ∀ s : AS, (∀ v ∈ (Op.call c).operands, s.ev v = r.ev v) → c.args.toList.map s.ev = c.args.toList.map r.ev := fun s hl => by
          simp only [Op.operands, Call.operands, hc] at hl
          exact map_ev fun y hy => hl y (by simp [Array.mem_toList_iff.1 hy])
        have hrun : ∀ (s : AS) (R' : Type) (k' : AS → Option R'), astep P Γ s o k' = acallH d s (c.args.toList.map s.ev ++ []) (fun s' tv => k' (s'.put o.dst tv)) := fun s R' k' => by
          simp only [astep, hop, hc, AS.ev, hd, List.map_nil, him]
        rw [hrun] at e
        unfold acallH at e
        split at e
        · simp at e
        rename_i xx hx
        obtain ⟨y, hy, e⟩ := Option.bind_eq_some_iff.1 e
        refine ⟨_, _, e, fun hp => ?_, fun s hl hs R' k' => ?_⟩
        · simp only [isPush, hop, hc, hd] at hp
          exact d.pushes hp _ _ _ _
        · rw [hrun]
          unfold acallH
          rw [hops s hl, hs, hx]
          simp only [hy, Option.bind_some]
      | _ => simp [hc] at he
    | invoke _ _ => simp [hc] at he
    | builtin b =>
      cases b with
      | append =>
        have him : Γ.im o = false := by simpa [hc] using he
        simp only [astep, hop, hc, aappend, him] at e
        split at e
        rotate_left
        · simp at e
        rename_i y z t t' ha ht
        split at e
        rotate_left
        · simp at e
        rename_i htt
        split at e
        rotate_left
        · simp at e
        rename_i e' av bv h1 h2 h3
        have hops : ∀ s : AS, (∀ v ∈ (Op.call c).operands, s.ev v = r.ev v) → s.ev y = r.ev y ∧ s.ev z = r.ev z := fun s hl => by
          simp only [Op.operands, Call.operands, hc] at hl
          have hm : ∀ v ∈ c.args.toList, s.ev v = r.ev v := fun v hv => hl v (by simp [Array.mem_toList_iff.1 hv])
          rw [ha] at hm
          exact ⟨hm y (by simp), hm z (by simp)⟩
        have to : ∀ {q : K} {ys : List q.den} {f2 : Bool}, aappendTo P r o.dst e' q ys f2 av k = some x →
            ∃ t h', k ({ r with heap := h' }.put o.dst t) = some x ∧ (isPush Γ o = true → ∃ δ, h' = r.heap ++ δ) ∧
              ∀ s : AS, s.heap = r.heap → ∀ (R' : Type) (k' : AS → Option R'), aappendTo P s o.dst e' q ys f2 av k' = k' ({ s with heap := h' }.put o.dst t) := by
          intro q ys f2 e
          unfold aappendTo at e
          split at e
          rotate_left
          · simp at e
          rename_i xs f1 l i zz q1 q2 q3
          split at e
          rotate_left
          · simp at e
          rename_i hcc
          obtain ⟨g1, e⟩ := gd_some e
          obtain ⟨g2, e⟩ := gd_some e
          have hkr : r.kill l = { r with heap := (r.kill l).heap } := kill_heap rfl
          refine ⟨.one (.vf r.heap.length), (r.kill l).heap ++ [(true, AObj.vec e' q (xs ++ ys) (f1 && f2))], by rw [hkr] at e; exact e, fun hp => ?_, fun s hs R' k' => ?_⟩
          · simp only [isPush, hop, hc, ha] at hp
            split at hp
            · rename_i hcons
              simp only [List.cons.injEq] at hcons
              obtain ⟨rfl, _⟩ := hcons
              have : av = .nilsl := by
                have : r.ev (.const (.slice none 0 0)) = .one .nilsl := rfl
                rw [this] at h2; simpa using h2.symm
              subst this
              simp only [aowned, Option.some.injEq, Prod.mk.injEq] at q1
              obtain ⟨_, _, rfl⟩ := q1
              exact ⟨_, rfl⟩
            · simp at hp
          · simp only [aappendTo, hs, q1, q2, q3, if_pos hcc, gd_pos g1, gd_pos g2, push_eq, kill_heap (l := l) hs]
        split at e
        · rename_i q ys f2 hb
          obtain ⟨t, h', k1, k2, k3⟩ := to e
          refine ⟨t, h', k1, k2, fun s hl hs R' k' => ?_⟩
          obtain ⟨e1, e2⟩ := hops s hl
          simp only [astep, hop, hc, aappend, him, ha, ht, if_pos htt, h1, h2, h3, e1, e2, hs, hb]
          exact k3 s hs R' k'
        · rename_i hb
          split at e
          · rename_i q hq
            obtain ⟨t, h', k1, k2, k3⟩ := to e
            refine ⟨t, h', k1, k2, fun s hl hs R' k' => ?_⟩
            obtain ⟨e1, e2⟩ := hops s hl
            simp only [astep, hop, hc, aappend, him, ha, ht, if_pos htt, h1, h2, h3, e1, e2, hs, hb, hq]
            exact k3 s hs R' k'
          · simp at e
        · simp at e
      | copy =>
        simp only [astep, hop, hc, acopy] at e
        split at e
        rotate_left
        · simp at e
        rename_i y z t tl ha ht
        split at e
        rotate_left
        · simp at e
        rename_i e' av bv h1 h2 h3
        have hops : ∀ s : AS, (∀ v ∈ (Op.call c).operands, s.ev v = r.ev v) → s.ev y = r.ev y ∧ s.ev z = r.ev z := fun s hl => by
          simp only [Op.operands, Call.operands, hc] at hl
          have hm : ∀ v ∈ c.args.toList, s.ev v = r.ev v := fun v hv => hl v (by simp [Array.mem_toList_iff.1 hv])
          rw [ha] at hm
          exact ⟨hm y (by simp), hm z (by simp)⟩
        have np : isPush Γ o = true → y = .const (.slice none 0 0) := fun hp => by simp [isPush, hop, hc] at hp
        have nn : isPush Γ o = true → av = .nilsl := fun hp => by
          have hy := np hp
          subst hy
          have : r.ev (.const (.slice none 0 0)) = .one .nilsl := rfl
          rw [this] at h2; simpa using h2.symm
        split at e
        rotate_left
        · simp at e
        rename_i q ys f2 hb
        split at e
        · rename_i l
          split at e
          rotate_left
          · simp at e
          rename_i T q' xs fr hl
          split at e
          rotate_left
          · simp at e
          rename_i hq
          unfold szOk at e
          split at e
          rotate_left
          · simp at e
          rename_i ii hii
          split at e
          rotate_left
          · simp at e
          rename_i hsz
          refine ⟨_, _, e, fun hp => by have := nn hp; simp at this, fun s hl' hs R' k' => ?_⟩
          obtain ⟨e1, e2⟩ := hops s hl'
          simp only [astep, hop, hc, acopy, ha, ht, h1, h2, h3, e1, e2, hs, hb, hl, dif_pos hq, szOk, hii, if_pos hsz, upd_eq]
        · rename_i l off len
          split at e
          rotate_left
          · simp at e
          rename_i T q' xs fr hl
          split at e
          rotate_left
          · simp at e
          rename_i hq
          unfold szOk at e
          split at e
          rotate_left
          · simp at e
          rename_i ii hii
          split at e
          rotate_left
          · simp at e
          rename_i hsz
          refine ⟨_, _, e, fun hp => by have := nn hp; simp at this, fun s hl' hs R' k' => ?_⟩
          obtain ⟨e1, e2⟩ := hops s hl'
          simp only [astep, hop, hc, acopy, ha, ht, h1, h2, h3, e1, e2, hs, hb, hl, dif_pos hq, szOk, hii, if_pos hsz, upd_eq]
        · simp at e
      | delete =>
        simp only [astep, hop, hc, adelete] at e
        split at e
        rotate_left
        · simp at e
        rename_i m i t rest ha ht
        split at e
        rotate_left
        · simp at e
        rename_i kt vt l h1 h2
        split at e
        rotate_left
        · simp at e
        rename_i ki vi es fr h3
        split at e
        rotate_left
        · simp at e
        rename_i h4
        split at e
        rotate_left
        · simp at e
        rename_i xk f h5
        refine ⟨_, _, e, fun hp => ?_, fun s hl hs R' k' => ?_⟩
        · simp [isPush, hop, hc] at hp
        · simp only [Op.operands, Call.operands, hc] at hl
          have hm : ∀ v ∈ c.args.toList, s.ev v = r.ev v := fun v hv => hl v (by simp [Array.mem_toList_iff.1 hv])
          rw [ha] at hm
          have e1 := hm m (by simp)
          have e2 := hm i (by simp)
          simp only [astep, hop, hc, adelete, ha, ht, h1, h2, e1, e2, hs, h3, if_pos h4, h5, upd_eq]
      | _ => simp [hc] at he
  | makeMap t rv =>
    cases rv with
    | some _ => simp [astep, hop, aval] at e
    | none =>
      simp only [astep, hop, amakeMap] at e
      split at e
      rotate_left
      · simp at e
      rename_i kt vt h1
      split at e
      rotate_left
      · simp at e
      rename_i kk vk h2 h3
      refine ⟨_, _, e, fun _ => ⟨_, rfl⟩, fun s hl hs R' k' => ?_⟩
      simp only [astep, hop, amakeMap, h1, h2, h3, push_eq, hs]
  | range t y =>
    simp only [astep, hop, arange] at e
    split at e
    rotate_left
    · simp at e
    rename_i kt vt m h1 h2
    split at e
    rotate_left
    · simp at e
    rename_i ki vi es fr h3
    refine ⟨_, _, e, fun hp => ?_, fun s hl hs R' k' => ?_⟩
    · simp [isPush, hop] at hp
    · simp only [Op.operands] at hl
      have e1 := hl y (by simp)
      simp only [astep, hop, arange, h1, h2, e1, hs, h3]
  | mapUpdate t m i y =>
    simp only [astep, hop, amapUpdate] at e
    split at e
    rotate_left
    · simp at e
    rename_i kt vt l h1 h2
    split at e
    rotate_left
    · simp at e
    rename_i ki vi es fr h3
    split at e
    rotate_left
    · simp at e
    rename_i h4
    split at e
    rotate_left
    · simp at e
    rename_i xk f1 yk f2 h5 h6
    refine ⟨_, _, e, fun hp => ?_, fun s hl hs R' k' => ?_⟩
    · simp [isPush, hop] at hp
    · simp only [Op.operands] at hl
      have e1 := hl m (by simp)
      have e2 := hl i (by simp)
      have e3 := hl y (by simp)
      simp only [astep, hop, amapUpdate, h1, h2, e1, e2, e3, hs, h3, if_pos h4, h5, h6, upd_eq]
  | slice ty y lo hi mx =>
    have he' : Γ.im o = true := by simpa [isEff, hop] using he
    have hrun : ∀ (s : AS) (R' : Type) (k' : AS → Option R'), astep P Γ s o k' = aval P s o (fun tv => atrimV s o.dst tv k') := fun s R' k' => by simp only [astep, hop, he']
    rw [hrun] at e
    obtain ⟨t, h1, h2⟩ := aval_two (P := P) (o := o) (r := r) (s := r) (fun _ _ => rfl) (Sub.refl _) R _ x e
    unfold atrimV at h1
    split at h1
    rotate_left
    · simp at h1
    rename_i l off len
    split at h1
    rotate_left
    · simp at h1
    rename_i T q xs fr hob
    have hkr : r.kill (some l) = { r with heap := (r.kill (some l)).heap } := kill_heap rfl
    refine ⟨.one (.vf r.heap.length), (r.kill (some l)).heap ++ [(true, AObj.vec T q ((xs.drop off).take len) fr)], by rw [hkr] at h1; exact h1, fun hp => by simp [isPush, hop] at hp, fun s hl hs R' k' => ?_⟩
    rw [hrun]
    obtain ⟨t', h3, h4⟩ := aval_two (P := P) (o := o) (r := r) (s := s) (by unfold Like; rw [hop]; exact hl) (by rw [hs]; exact Sub.refl _) TV some _ (h2 TV some)
    simp only [Option.some.injEq] at h3
    subst h3
    refine (h4 _ _).trans ?_
    simp only [atrimV, hs, hob, push_eq, kill_heap (l := some l) hs]
  | _ => simp [hop] at he
end
end Go.Proofs.AM
end

section
/- Regions that draw their order: the reckoning, and what it says of each operation. -/
namespace Go.Proofs.AM
open Go Go.RowKit

def anorm : TV → TV
  | .one (.dat .bool b _) => litTV b
  | t => t

def anormAt (s : AS) : Option Nat → AS
  | none => s
  | some d => match s.tmps[d]? with
    | some t => { s with tmps := s.tmps.set d (anorm t) }
    | none => s

theorem anormAt_put (s : AS) (d : Option Nat) (t : TV) : anormAt (s.put d t) d = s.put d (anorm t) := by
  cases d with
  | none => rfl
  | some d =>
    simp only [AS.put, anormAt]
    by_cases hl : d < s.tmps.length
    · simp [hl]
    · simp [hl, List.set_eq_of_length_le (Nat.le_of_not_lt hl)]

theorem anorm_R {w : World} {N Nf : Nat → Prop} {β : List Bl} {t : TV} {v : Value} (h : t.R w N Nf β v) : (anorm t).R w N Nf β v := by
  unfold anorm
  split
  · rename_i b f
    have : v = .bool b := by simpa [TV.R, AV.R, K.rd] using h
    subst this
    simp [litTV, TV.R, AV.R, K.rd]
  · exact h

theorem anorm_lit {t : TV} {b f : Bool} (e : anorm t = .one (.dat .bool b f)) : f = true := by
  unfold anorm at e
  split at e
  · simp [litTV] at e; exact e.2
  · rename_i hne
    exact absurd e (hne b f)

/-! ### what comes ahead of what -/
def dirs (o : Oper) : List Nat := (o.after.toList.filter fun e => Region.binds .any e).map Edge.on

inductive Reach (ops : Array Oper) : Nat → Nat → Prop
  | one {i j : Nat} {o : Oper} : ops[i]? = some o → j ∈ dirs o → Reach ops j i
  | step {i j m : Nat} {o : Oper} : Reach ops m j → ops[i]? = some o → j ∈ dirs o → Reach ops m i

def dd : List Nat → List Nat
  | [] => []
  | x :: l => if (dd l).contains x then dd l else x :: dd l

theorem dd_mem {x : Nat} : ∀ {l : List Nat}, x ∈ dd l → x ∈ l
  | [], h => h
  | y :: l, h => by
    unfold dd at h
    split at h
    · exact List.mem_cons_of_mem _ (dd_mem h)
    · rcases List.mem_cons.1 h with rfl | h
      · simp
      · exact List.mem_cons_of_mem _ (dd_mem h)

def cloTab : List Oper → List (List Nat) → List (List Nat)
  | [], tab => tab
  | o :: l, tab => cloTab l (tab ++ [dd (dirs o ++ (dirs o).flatMap fun j => tab.getD j [])])

theorem cloTab_ok {ops : Array Oper} : ∀ (l : List Oper) (tab : List (List Nat)), ops.toList.drop tab.length = l →
    (∀ i j, j ∈ tab.getD i [] → Reach ops j i) → ∀ i j, j ∈ (cloTab l tab).getD i [] → Reach ops j i
  | [], tab, _, h, i, j, hm => h i j hm
  | o :: l, tab, hl, h, i, j, hm => by
    have ho : ops[tab.length]? = some o := by
      have : (ops.toList.drop tab.length)[0]? = some o := by rw [hl]; rfl
      simpa using this
    refine cloTab_ok l _ ?_ ?_ i j hm
    · have : (ops.toList.drop tab.length).drop 1 = l := by rw [hl]; rfl
      rw [List.drop_drop] at this
      simpa using this
    · intro i j hm
      by_cases hi : i < tab.length
      · rw [List.getD_eq_getElem?_getD, List.getElem?_append_left hi, ← List.getD_eq_getElem?_getD] at hm
        exact h i j hm
      · rw [List.getD_eq_getElem?_getD, List.getElem?_append_right (by omega)] at hm
        by_cases hi' : i = tab.length
        · subst hi'
          simp only [Nat.sub_self, List.getElem?_cons_zero, Option.getD_some] at hm
          rcases List.mem_append.1 (dd_mem hm) with hm | hm
          · exact .one ho hm
          · obtain ⟨q, hq, hm⟩ := List.mem_flatMap.1 hm
            exact .step (h q j hm) ho hq
        · have : i - tab.length ≠ 0 := by omega
          obtain ⟨q, hq⟩ : ∃ q, i - tab.length = q + 1 := ⟨i - tab.length - 1, by omega⟩
          rw [hq] at hm
          simp at hm

def effAt (Γ : Env) (l : List Oper) (j : Nat) : Bool := match l[j]? with
  | some o => isEff Γ o
  | none => false
def pushAt (Γ : Env) (l : List Oper) (j : Nat) : Bool := match l[j]? with
  | some o => isPush Γ o
  | none => false

def drawOK (Γ : Env) (l : List Oper) (ops : Array Oper) (tab : List (List Nat)) : Bool :=
  (List.range l.length).all fun i => match l[i]? with
    | none => false
    | some o =>
      (dirs o).all (fun j => decide (j < i)) &&
      (match o.guard with
        | none => true
        | some (g, _) => decide (g < i)) &&
      (List.range l.length).all fun j => match l[j]? with
        | none => false
        | some p =>
          (match p.dst with
            | none => true
            | some d => (i == j || o.dst != some d) && (!(o.looksAt ops).contains d || i == j || (tab.getD i []).contains j || (tab.getD j []).contains i)) &&
          (!(isEff Γ o && isEff Γ p && decide (i < j)) || (tab.getD j []).contains i)

def loOf (Γ : Env) (l : List Oper) : List Nat → Nat
  | [] => 0
  | j :: t => if effAt Γ l j && decide (loOf Γ l t ≤ j) then j + 1 else loOf Γ l t

def hidOf (Γ : Env) (l : List Oper) (tab : List (List Nat)) (i lo : Nat) : Bool :=
  (List.range l.length).any fun j => effAt Γ l j && decide (lo ≤ j) && !pushAt Γ l j && !(tab.getD j []).contains i && j != i

def drawInfo (Γ : Env) (l : List Oper) (tab : List (List Nat)) : List Oper → Nat → List (Oper × Nat × Bool)
  | [], _ => []
  | o :: r, i => (o, loOf Γ l (tab.getD i []), hidOf Γ l tab i (loOf Γ l (tab.getD i []))) :: drawInfo Γ l tab r (i + 1)

structure DrawP (Γ : Env) (ops : Array Oper) : Prop where
  dir : ∀ (i : Nat) (o : Oper), ops[i]? = some o → ∀ j ∈ dirs o, j < i
  gd : ∀ (i : Nat) (o : Oper) (g : Nat) (b : Bool), ops[i]? = some o → o.guard = some (g, b) → g < i
  dst : ∀ (i j : Nat) (o p : Oper) (d : Nat), ops[i]? = some o → ops[j]? = some p → o.dst = some d → p.dst = some d → i = j
  look : ∀ (i j : Nat) (o p : Oper) (d : Nat), ops[i]? = some o → ops[j]? = some p → p.dst = some d → d ∈ o.looksAt ops → i = j ∨ Reach ops j i ∨ Reach ops i j
  eff : ∀ (i j : Nat) (o p : Oper), ops[i]? = some o → ops[j]? = some p → isEff Γ o = true → isEff Γ p = true → i < j → Reach ops i j

theorem drawOK_ok {Γ : Env} {ops : Array Oper} {tab : List (List Nat)} (ht : ∀ i j, j ∈ tab.getD i [] → Reach ops j i) (h : drawOK Γ ops.toList ops tab = true) : DrawP Γ ops := by
  unfold drawOK at h
  simp only [List.all_eq_true, List.mem_range] at h
  have key : ∀ (i : Nat) (o : Oper), ops[i]? = some o → _ := fun i o ho => by
    have hi : i < ops.toList.length := by have := (Array.getElem?_eq_some_iff.1 ho).1; simpa using this
    have := h i hi
    have ho' : ops.toList[i]? = some o := by simpa using ho
    rw [ho'] at this
    exact this
  have key2 : ∀ (i j : Nat) (o p : Oper), ops[i]? = some o → ops[j]? = some p → ((match p.dst with
            | none => true
            | some d => (i == j || o.dst != some d) && (!(o.looksAt ops).contains d || i == j || (tab.getD i []).contains j || (tab.getD j []).contains i)) &&
          (!(isEff Γ o && isEff Γ p && decide (i < j)) || (tab.getD j []).contains i)) = true := fun i j o p ho hp => by
    have := key i o ho
    simp only [Bool.and_eq_true, List.all_eq_true, List.mem_range] at this
    have hj : j < ops.toList.length := by have := (Array.getElem?_eq_some_iff.1 hp).1; simpa using this
    have := this.2 j hj
    have hp' : ops.toList[j]? = some p := by simpa using hp
    rw [hp'] at this
    simpa using this
  refine ⟨fun i o ho j hj => ?_, fun i o g b ho hg => ?_, fun i j o p d ho hp h1 h2 => ?_, fun i j o p d ho hp h1 h2 => ?_, fun i j o p ho hp h1 h2 h3 => ?_⟩
  · have := key i o ho
    simp only [Bool.and_eq_true, List.all_eq_true] at this
    simpa using this.1.1 j hj
  · have := key i o ho
    simp only [Bool.and_eq_true, hg] at this
    simpa using this.1.2
  · have := key2 i j o p ho hp
    simp only [h2, h1, Bool.and_eq_true, Bool.or_eq_true] at this
    simpa using this.1.1
  · have := key2 i j o p ho hp
    simp only [h1, Bool.and_eq_true, Bool.or_eq_true] at this
    rcases this.1.2 with ((hx | hx) | hx) | hx
    · have : (o.looksAt ops).contains d = true := by simpa using h2
      rw [this] at hx; simp at hx
    · left; simpa using hx
    · right; left; exact ht _ _ (by simpa using hx)
    · right; right; exact ht _ _ (by simpa using hx)
  · have := key2 i j o p ho hp
    simp only [h1, h2, h3, Bool.and_eq_true, Bool.or_eq_true] at this
    rcases this.2 with hx | hx
    · simp at hx
    · exact ht _ _ (by simpa using hx)

theorem loOf_ok {Γ : Env} {l : List Oper} : ∀ {t : List Nat}, loOf Γ l t = 0 ∨ ∃ e ∈ t, loOf Γ l t = e + 1 ∧ effAt Γ l e = true
  | [] => .inl rfl
  | j :: t => by
    unfold loOf
    split
    · rename_i h
      simp at h
      exact .inr ⟨j, by simp, rfl, h.1⟩
    · rcases loOf_ok (l := l) (t := t) with h | ⟨e, he, h⟩
      · exact .inl h
      · exact .inr ⟨e, by simp [he], h⟩

structure InfoP (Γ : Env) (ops : Array Oper) (i lo : Nat) (hid : Bool) : Prop where
  low : lo = 0 ∨ ∃ (e : Nat) (p : Oper), lo = e + 1 ∧ ops[e]? = some p ∧ isEff Γ p = true ∧ Reach ops e i
  hide : hid = false → ∀ (j : Nat) (p : Oper), ops[j]? = some p → isEff Γ p = true → lo ≤ j → isPush Γ p = true ∨ Reach ops i j ∨ j = i

theorem drawInfo_len {Γ : Env} {l : List Oper} {tab : List (List Nat)} : ∀ (r : List Oper) (i : Nat), (drawInfo Γ l tab r i).length = r.length
  | [], _ => rfl
  | o :: r, i => by simp [drawInfo, drawInfo_len r]

theorem drawInfo_ok {Γ : Env} {ops : Array Oper} {tab : List (List Nat)} (ht : ∀ i j, j ∈ tab.getD i [] → Reach ops j i) : ∀ (r : List Oper) (i : Nat), ops.toList.drop i = r →
    ∀ (j : Nat) (o : Oper) (lo : Nat) (hid : Bool), (drawInfo Γ ops.toList tab r i)[j]? = some (o, lo, hid) → ops[i + j]? = some o ∧ InfoP Γ ops (i + j) lo hid
  | [], i, _, j, o, lo, hid, h => by simp [drawInfo] at h
  | q :: r, i, hr, 0, o, lo, hid, h => by
    have ho : ops[i]? = some q := by
      have : (ops.toList.drop i)[0]? = some q := by rw [hr]; rfl
      simpa using this
    simp only [drawInfo, List.getElem?_cons_zero, Option.some.injEq, Prod.mk.injEq] at h
    obtain ⟨rfl, rfl, rfl⟩ := h
    refine ⟨ho, ?_, fun hh j p hp he hl => ?_⟩
    · rcases loOf_ok (Γ := Γ) (l := ops.toList) (t := tab.getD i []) with h | ⟨e, he, h, hf⟩
      · exact .inl h
      · unfold effAt at hf
        split at hf
        · rename_i p hp
          exact .inr ⟨e, p, h, by simpa using hp, hf, ht _ _ he⟩
        · simp at hf
    · unfold hidOf at hh
      rw [List.any_eq_false] at hh
      have hj : j < ops.toList.length := by have := (Array.getElem?_eq_some_iff.1 hp).1; simpa using this
      have := hh j (List.mem_range.2 hj)
      have hp' : ops.toList[j]? = some p := by simpa using hp
      simp only [effAt, pushAt, hp', he] at this
      simp only [Nat.add_zero] at hl ⊢
      by_cases h1 : isPush Γ p = true
      · exact .inl h1
      · right
        by_cases h2 : j = i
        · exact .inr h2
        · left
          have h1' : isPush Γ p = false := by simpa using h1
          simp only [h1', hl, decide_true, Bool.and_true, Bool.not_false, Bool.true_and] at this
          have : (tab.getD j []).contains i = true := by
            by_cases hc : (tab.getD j []).contains i = true
            · exact hc
            · exfalso; apply this
              have hc' : (tab.getD j []).contains i = false := by simpa using hc
              rw [hc']; simpa using h2
          exact ht _ _ (by simpa using this)
  | q :: r, i, hr, j + 1, o, lo, hid, h => by
    have hr' : ops.toList.drop (i + 1) = r := by
      have : (ops.toList.drop i).drop 1 = r := by rw [hr]; rfl
      rwa [List.drop_drop] at this
    have := drawInfo_ok ht r (i + 1) hr' j o lo hid h
    rwa [show i + 1 + j = i + (j + 1) by omega] at this

/-! ### the reckoning -/
section
variable {R : Type}

/-- A store into what the region itself has laid. -/
def locSt (l : List Oper) (o : Oper) : Bool := match o.op with
  | .store _ (.tmp d) _ => o.guard.isNone && l.any fun p => p.dst == some d && (match p.op with
    | .alloc _ | .box _ _ => true
    | _ => false)
  | _ => false

/-- Nothing that lay there ahead of the region turns in it. -/
def calmR (Γ : Env) (l : List Oper) : Bool := l.all fun o => !isEff Γ o || isPush Γ o || locSt l o

/-- A store behind the first 'n0' objects. -/
def keepsB (n0 : Nat) (s : AS) (o : Oper) : Bool := match o.op with
  | .store _ x _ => o.guard.isNone && (match s.ev x with
    | .one (.ptr l _) => decide (n0 ≤ l)
    | _ => false)
  | _ => false

/-- The objects that a step may turn. -/
def touchOf (Γ : Env) (s : AS) (o : Oper) : List Nat := match o.op with
  | .store _ x _ => match s.ev x with
    | .one (.ptr l _) => [l]
    | .one (.vp l _ _) => [l]
    | _ => []
  | .call c => match c.callee with
    | .value (.func g) => match Γ.hd g with
      | some d => match d.touch with
        | some f => f s.heap (c.args.toList.map s.ev ++ [])
        | none => []
      | none => []
    | _ => []
  | _ => []

/-- A step that turns of the first 'n0' objects those of 'T' alone. -/
def keepsT (Γ : Env) (n0 : Nat) (T : List Nat) (s : AS) (o : Oper) : Bool := o.guard.isNone && (match o.op with
  | .store _ x _ => match s.ev x with
    | .one (.ptr l _) => decide (n0 ≤ l) || T.contains l
    | .one (.vp l _ _) => decide (n0 ≤ l) || T.contains l
    | _ => false
  | .call c => match c.callee with
    | .value (.func g) => !Γ.im o && (match Γ.hd g with
      | some d => match d.touch with
        | some f => (f s.heap (c.args.toList.map s.ev ++ [])).all fun l => decide (n0 ≤ l) || T.contains l
        | none => false
      | none => false)
    | _ => false
  | _ => false)

def killL (h : Heap) : List Nat → Heap
  | [] => h
  | l :: T => (killL h T).set l (true, .dead)

/-- What an operation makes, as far as pointers go. -/
def preV (P : Program) (s : AS) (o : Oper) : TV := match o.op with
  | .move x | .assign x | .nilCheck x => s.ev x
  | .fieldAddr t x i => match afields P t i, s.ev x with
    | some f, .one a => (afieldAddr P f a some).getD (.one .junk)
    | _, _ => .one .junk
  | .indexAddr _ x _ => match s.ev x with
    | .one (.vf l) => .one (.vp l 0 0)
    | .one (.vw l _ _) => .one (.vp l 0 0)
    | _ => .one .junk
  | .load t x => match s.ev x with
    | .one (.ptr l off) => (aload P s.heap t (.ptr l off) some).getD (.one .junk)
    | _ => .one .junk
  | _ => .one .junk

/-- What a region may turn, found in the order of its text. -/
def preT (P : Program) (Γ : Env) : List Oper → AS → List Nat → List Nat
  | [], _, T => T
  | o :: l, s, T => preT P Γ l (s.put o.dst (preV P s o)) (touchOf Γ s o ++ T)

/-- 'cm': what lay there ahead stays, but for 'T'; the first 'n0' objects are 'V'. -/
def adrs (P : Program) (Γ : Env) (ops : Array Oper) (cm : Bool) (n0 : Nat) (T : List Nat) (V : Heap) : List (Oper × Nat × Bool) → List Heap → AS → (AS → Option R) → Option R
  | [], _, s, k => k s
  | (o, lo, hid) :: l, Hs, s, k =>
    if isEff Γ o = true then (if (!cm || isPush Γ o || keepsT Γ n0 T s o) = true then aop P Γ ops o s fun s' => adrs P Γ ops cm n0 T V l (Hs ++ [s'.heap]) (anormAt s' o.dst) k else none)
    else aop P Γ ops o { s with heap := if hid = true then V else Hs.getD lo [] } fun s' => adrs P Γ ops cm n0 T V l (Hs ++ [s.heap]) (anormAt { s' with heap := s.heap } o.dst) k

/-- Operations that make of values alone a value. -/
def apartOp (o : Oper) : Bool := match o.op with
  | .move _ | .assign _ | .pick _ _ _ | .nilCheck _ | .fieldAddr _ _ _ | .binOp _ _ _ _ _ | .unOp _ _ _ | .extract _ _ | .field _ _ _ | .build _ _ | .makeFunc _ _ _ | .makeInterface _ _ => true
  | _ => false

/-- Effects of which it is known what they turn. -/
def coverOp (Γ : Env) (o : Oper) : Bool := match o.op with
  | .store _ _ _ => true
  | .call c => match c.callee with
    | .value (.func g) => match Γ.hd g with
      | some d => d.touch.isSome
      | none => false
    | _ => false
  | _ => false

def hidAny (Γ : Env) (l : List (Oper × Nat × Bool)) : Bool := (l.any fun x => x.2.2 && !isEff Γ x.1 && !apartOp x.1) && l.all fun x => !isEff Γ x.1 || isPush Γ x.1 || coverOp Γ x.1

def adraw (P : Program) (Γ : Env) (ops : Array Oper) (s : AS) (k : AS → Option R) : Option R :=
  let l := ops.toList
  let tab := cloTab l []
  if drawOK Γ l ops tab = true then
    if calmR Γ l = true then adrs P Γ ops true s.heap.length [] s.heap (drawInfo Γ l tab l 0) [s.heap] s k
    else if hidAny Γ (drawInfo Γ l tab l 0) = true then adrs P Γ ops true s.heap.length (preT P Γ l s []) (killL s.heap (preT P Γ l s [])) (drawInfo Γ l tab l 0) [s.heap] s k
    else adrs P Γ ops false s.heap.length [] [] (drawInfo Γ l tab l 0) [s.heap] s k
  else none
end

theorem aop_keepsT {P : Program} {Γ : Env} {ops : Array Oper} {o : Oper} {n0 : Nat} {T : List Nat} {s s' : AS} (hk : keepsT Γ n0 T s o = true) (h0 : n0 ≤ s.heap.length) (e : aop P Γ ops o s some = some s') : n0 ≤ s'.heap.length ∧ ∀ l, l < n0 → l ∉ T → s'.heap[l]? = s.heap[l]? := by
  unfold keepsT at hk
  rw [Bool.and_eq_true] at hk
  obtain ⟨hg, hk⟩ := hk
  have hg : o.guard = none := by simpa using hg
  unfold aop at e
  simp only [hg] at e
  have hput : ∀ (q : AS) (d : Option Nat) (tv : TV), (q.put d tv).heap = q.heap := fun q d tv => by cases d <;> rfl
  split at hk
  · rename_i t x y hop
    unfold astep at e
    simp only [hop] at e
    split at hk
    · rename_i l off hx
      have hl : n0 ≤ l ∨ l ∈ T := by simpa using hk
      simp only [hx] at e
      unfold astore at e
      split at e
      · simp at e
      split at e
      rotate_left
      · simp at e
      split at e
      · rename_i l' off' he
        cases he
        split at e
        · split at e
          · simp only [Option.some.injEq] at e
            subst e
            rw [hput]
            refine ⟨by simpa [AS.upd] using h0, fun j hj hjT => ?_⟩
            simp only [AS.upd]
            rw [List.getElem?_set_ne (fun e => by subst e; rcases hl with h | h; omega; exact hjT h)]
          · simp at e
        · simp at e
      · rename_i he; cases he
      · rename_i h1 _; exact absurd rfl (h1 _ _)
    · rename_i l i off hx
      have hl : n0 ≤ l ∨ l ∈ T := by simpa using hk
      simp only [hx] at e
      unfold astore at e
      split at e
      · simp at e
      split at e
      rotate_left
      · simp at e
      split at e
      · rename_i he; cases he
      · rename_i l' i' off' he
        cases he
        split at e
        · split at e
          · obtain ⟨_, e⟩ := gd_some e
            split at e
            · simp only [Option.some.injEq] at e
              subst e
              rw [hput]
              refine ⟨by simpa [AS.upd] using h0, fun j hj hjT => ?_⟩
              simp only [AS.upd]
              rw [List.getElem?_set_ne (fun e => by subst e; rcases hl with h | h; omega; exact hjT h)]
            · simp at e
          · simp at e
        · simp at e
      · rename_i _ h2; exact absurd rfl (h2 _ _ _)
    · simp at hk
  · rename_i c hop
    split at hk
    rotate_left
    · simp at hk
    rename_i g hc
    rw [Bool.and_eq_true] at hk
    obtain ⟨him, hk⟩ := hk
    have him : Γ.im o = false := by simpa using him
    split at hk
    rotate_left
    · simp at hk
    rename_i d hd
    split at hk
    rotate_left
    · simp at hk
    rename_i f hf
    simp only [astep, hop, hc, AS.ev, hd, List.map_nil, him] at e
    unfold acallH at e
    split at e
    · simp at e
    rename_i xx hx
    obtain ⟨y, hy, e⟩ := Option.bind_eq_some_iff.1 e
    simp only [Option.some.injEq] at e
    subst e
    rw [hput]
    obtain ⟨q1, q2⟩ := d.touches f hf s.heap (c.args.toList.map s.ev ++ []) xx y hx
    refine ⟨Nat.le_trans h0 q1, fun l hl hlT => q2 l (Nat.lt_of_lt_of_le hl h0) fun hm => ?_⟩
    have := List.all_eq_true.1 hk l hm
    simp only [Bool.or_eq_true, decide_eq_true_eq, List.contains_eq_mem] at this
    rcases this with h | h
    · omega
    · exact hlT h
  · simp at hk

theorem killL_ne (h : Heap) : ∀ (T : List Nat) (l : Nat), l ∉ T → (killL h T)[l]? = h[l]?
  | [], l, _ => rfl
  | x :: T, l, hl => by
    have h1 : l ≠ x := fun e => hl (by simp [e])
    have h2 : l ∉ T := fun e => hl (by simp [e])
    simp only [killL]
    rw [List.getElem?_set_ne (Ne.symm h1), killL_ne h T l h2]

theorem killL_len (h : Heap) : ∀ (T : List Nat), (killL h T).length = h.length
  | [] => rfl
  | x :: T => by simp [killL, killL_len h T]

theorem killL_mem (h : Heap) : ∀ (T : List Nat) (l : Nat), l ∈ T → hat (killL h T) l = .dead
  | x :: T, l, hl => by
    simp only [killL]
    by_cases e : l = x
    · subst e
      unfold hat
      by_cases hlen : l < (killL h T).length
      · rw [List.getElem?_set_self hlen]
      · rw [List.getElem?_eq_none (by simp; omega)]
    · have : l ∈ T := by simpa [e] using hl
      have ih := killL_mem h T l this
      unfold hat at ih ⊢
      rw [List.getElem?_set_ne (Ne.symm e)]
      exact ih

theorem aop_keeps {P : Program} {Γ : Env} {ops : Array Oper} {o : Oper} {n0 : Nat} {s s' : AS} (hk : keepsB n0 s o = true) (e : aop P Γ ops o s some = some s') : s'.heap.length = s.heap.length ∧ ∀ l, l < n0 → s'.heap[l]? = s.heap[l]? := by
  unfold keepsB at hk
  split at hk
  rotate_left
  · simp at hk
  rename_i t x y hop
  simp only [Bool.and_eq_true] at hk
  obtain ⟨hg, hk⟩ := hk
  have hg : o.guard = none := by simpa using hg
  split at hk
  rotate_left
  · simp at hk
  rename_i l off hx
  have hl : n0 ≤ l := by simpa using hk
  unfold aop at e
  simp only [hg] at e
  unfold astep at e
  simp only [hop, hx] at e
  unfold astore at e
  split at e
  · simp at e
  rename_i i hi
  split at e
  rotate_left
  · simp at e
  split at e
  · rename_i l' off' he
    cases he
    split at e
    · split at e
      · simp only [Option.some.injEq] at e
        subst e
        have : ∀ (q : AS) (d : Option Nat) (tv : TV), (q.put d tv).heap = q.heap := fun q d tv => by cases d <;> rfl
        rw [this]
        refine ⟨by simp [AS.upd], fun j hj => ?_⟩
        simp only [AS.upd]
        rw [List.getElem?_set_ne (by omega)]
      · simp at e
    · simp at e
  · rename_i he
    cases he
  · rename_i h1 _
    exact absurd rfl (h1 _ _)

/-! ### an operation, carried out or not, in two states -/
def LikeT (ops : Array Oper) (o : Oper) (T T' : List TV) : Prop := ∀ d ∈ o.looksAt ops, T'[d]? = T[d]?

section
variable {P : Program} {Γ : Env} {ops : Array Oper} {r s : AS} {o : Oper}

theorem LikeT.like (h : LikeT ops o r.tmps s.tmps) : Like o r s := by
  intro x hx
  cases x with
  | tmp t =>
    have := h t (List.mem_append_left _ (List.mem_filterMap.2 ⟨.tmp t, by simpa using hx, rfl⟩))
    simp only [AS.ev, this]
  | _ => rfl

theorem LikeT.guard (h : LikeT ops o r.tmps s.tmps) {j : Nat} {b : Bool} {d : Nat} (hg : o.guard = some (j, b)) (hd : gslot ops j = some d) : s.tmps[d]? = r.tmps[d]? := by
  refine h d (List.mem_append_right _ ?_)
  simp only [hg]
  unfold gslot at hd
  split at hd
  · rename_i p hp
    simp [hp, hd]
  · simp at hd

theorem put_same {d : Nat} {t : TV} (h : r.tmps[d]? = some t) : r.put (some d) t = r := by
  simp only [AS.put]
  have : r.tmps.set d t = r.tmps := by
    apply List.ext_getElem?
    intro i
    by_cases e : d = i
    · subst e
      have hl := (List.getElem?_eq_some_iff.1 h).1
      rw [List.getElem?_set_self hl, h]
    · rw [List.getElem?_set_ne e]
  rw [this]

/-- What is known of the slots that guards look at. -/
def Lits (ops : Array Oper) (o : Oper) (T : List TV) : Prop := ∀ (j : Nat) (b : Bool) (d : Nat), o.guard = some (j, b) → gslot ops j = some d → ∀ c f, T[d]? = some (.one (.dat .bool c f)) → f = true

theorem aop_read (hn : isEff Γ o = false) (hl : Lits ops o r.tmps) {R : Type} {k : AS → Option R} {x : R} (e : aop P Γ ops o r k = some x) :
    ∃ t, k (r.put o.dst t) = some x ∧ ∀ s, LikeT ops o r.tmps s.tmps → Sub r.heap s.heap → ∀ (R' : Type) (k' : AS → Option R'), aop P Γ ops o s k' = k' (s.put o.dst t) := by
  unfold aop at e
  split at e
  · rename_i hg
    obtain ⟨t, h1, h2⟩ := step_read hn e
    refine ⟨t, h1, fun s hk hs R' k' => ?_⟩
    unfold aop
    simp only [hg]
    exact h2 s hk.like hs R' k'
  · rename_i j want hg
    split at e
    · simp at e
    rename_i d hd
    split at e
    · rename_i b f hb
      have hf := hl j want d hg hd b f hb
      subst hf
      have hsame : r.put (some d) (litTV b) = r := put_same hb
      cases hw : (b == want)
      · have e' : k (r.put o.dst undefTV) = some x := by
          cases b <;> cases want <;> simp at hw <;> simpa [hsame] using e
        refine ⟨undefTV, e', fun s hk hs R' k' => ?_⟩
        unfold aop
        have hb' : s.tmps[d]? = some (.one (.dat .bool b true)) := by rw [hk.guard hg hd, hb]
        have hsame' : s.put (some d) (litTV b) = s := put_same hb'
        simp only [hg, hd, hb']
        cases b <;> cases want <;> simp at hw <;> simp [hsame']
      · have e' : astep P Γ r o k = some x := by
          cases b <;> cases want <;> simp at hw <;> simpa [hsame] using e
        obtain ⟨t, h1, h2⟩ := step_read hn e'
        refine ⟨t, h1, fun s hk hs R' k' => ?_⟩
        unfold aop
        have hb' : s.tmps[d]? = some (.one (.dat .bool b true)) := by rw [hk.guard hg hd, hb]
        have hsame' : s.put (some d) (litTV b) = s := put_same hb'
        simp only [hg, hd, hb']
        have := h2 s hk.like hs R' k'
        cases b <;> cases want <;> simp at hw <;> simpa [hsame'] using this
    · rename_i hb
      refine ⟨undefTV, e, fun s hk hs R' k' => ?_⟩
      unfold aop
      have hb' : s.tmps[d]? = some (.tup []) := by rw [hk.guard hg hd, hb]
      simp only [hg, hd, hb']
    · simp at e

theorem aop_eff (hn : isEff Γ o = true) (hl : Lits ops o r.tmps) {R : Type} {k : AS → Option R} {x : R} (e : aop P Γ ops o r k = some x) :
    ∃ t h', k ({ r with heap := h' }.put o.dst t) = some x ∧ (isPush Γ o = true → ∃ δ, h' = r.heap ++ δ) ∧
      ∀ s : AS, LikeT ops o r.tmps s.tmps → s.heap = r.heap → ∀ (R' : Type) (k' : AS → Option R'), aop P Γ ops o s k' = k' ({ s with heap := h' }.put o.dst t) := by
  unfold aop at e
  split at e
  · rename_i hg
    obtain ⟨t, h', h1, h2, h3⟩ := eff_two hn e
    refine ⟨t, h', h1, h2, fun s hk hs R' k' => ?_⟩
    unfold aop
    simp only [hg]
    exact h3 s hk.like hs R' k'
  · rename_i j want hg
    split at e
    · simp at e
    rename_i d hd
    split at e
    · rename_i b f hb
      have hf := hl j want d hg hd b f hb
      subst hf
      have hsame : r.put (some d) (litTV b) = r := put_same hb
      cases hw : (b == want)
      · have e' : k (r.put o.dst undefTV) = some x := by
          cases b <;> cases want <;> simp at hw <;> simpa [hsame] using e
        refine ⟨undefTV, r.heap, e', fun _ => ⟨[], by simp⟩, fun s hk hs R' k' => ?_⟩
        unfold aop
        have hb' : s.tmps[d]? = some (.one (.dat .bool b true)) := by rw [hk.guard hg hd, hb]
        have hsame' : s.put (some d) (litTV b) = s := put_same hb'
        simp only [hg, hd, hb', ← hs]
        cases b <;> cases want <;> simp at hw <;> simp [hsame']
      · have e' : astep P Γ r o k = some x := by
          cases b <;> cases want <;> simp at hw <;> simpa [hsame] using e
        obtain ⟨t, h', h1, h2, h3⟩ := eff_two hn e'
        refine ⟨t, h', h1, h2, fun s hk hs R' k' => ?_⟩
        unfold aop
        have hb' : s.tmps[d]? = some (.one (.dat .bool b true)) := by rw [hk.guard hg hd, hb]
        have hsame' : s.put (some d) (litTV b) = s := put_same hb'
        simp only [hg, hd, hb']
        have := h3 s hk.like hs R' k'
        cases b <;> cases want <;> simp at hw <;> simpa [hsame'] using this
    · rename_i hb
      refine ⟨undefTV, r.heap, e, fun _ => ⟨[], by simp⟩, fun s hk hs R' k' => ?_⟩
      unfold aop
      have hb' : s.tmps[d]? = some (.tup []) := by rw [hk.guard hg hd, hb]
      simp only [hg, hd, hb', ← hs]
    · simp at e
end
end Go.Proofs.AM
end

section
/- Regions that draw their order: whatever the order, the reckoning is right. -/
namespace Go.Proofs.AM
open Go Go.RowKit

def put1 (T : List TV) (d : Option Nat) (t : TV) : List TV := match d with
  | some d => T.set d t
  | none => T

def puts : List Oper → List TV → List TV → List TV
  | o :: l, t :: ts, T => puts l ts (put1 T o.dst t)
  | _, _, T => T

structure StepOK (P : Program) (Γ : Env) (ops : Array Oper) (cm : Bool) (n0 : Nat) (Tt : List Nat) (o : Oper) (T : List TV) (H H' V : Heap) (t : TV) : Prop where
  ex : ∃ t', anorm t' = t ∧ (isEff Γ o = true → ∀ s : AS, LikeT ops o T s.tmps → s.heap = H → ∀ (R : Type) (k : AS → Option R), aop P Γ ops o s k = k ({ s with heap := H' }.put o.dst t')) ∧
    (isEff Γ o = false → ∀ s : AS, LikeT ops o T s.tmps → Sub V s.heap → ∀ (R : Type) (k : AS → Option R), aop P Γ ops o s k = k (s.put o.dst t'))
  push : isEff Γ o = true → isPush Γ o = true → ∃ δ, H' = H ++ δ
  same : isEff Γ o = false → H' = H
  keep : cm = true → isEff Γ o = true → n0 ≤ H.length → n0 ≤ H'.length ∧ ∀ l, l < n0 → l ∉ Tt → H'[l]? = H[l]?

section
variable {P : Program} {Γ : Env} {ops : Array Oper}

theorem put1_put (s : AS) (d : Option Nat) (t : TV) : (s.put d t).tmps = put1 s.tmps d t := by cases d <;> rfl
theorem put_heap (s : AS) (d : Option Nat) (t : TV) : (s.put d t).heap = s.heap := by cases d <;> rfl
theorem put_marks (s : AS) (d : Option Nat) (t : TV) : (s.put d t).marks = s.marks := by cases d <;> rfl

def NormUpTo (ops : Array Oper) (i : Nat) (T : List TV) : Prop := ∀ g, g < i → ∀ d, gslot ops g = some d → ∀ c f, T[d]? = some (.one (.dat .bool c f)) → f = true

theorem NormUpTo.put {i : Nat} {T : List TV} {o : Oper} (h : NormUpTo ops i T) (ho : ops[i]? = some o) (t : TV) : NormUpTo ops (i + 1) (put1 T o.dst (anorm t)) := by
  intro g hg d hd c f hT
  cases hdst : o.dst with
  | none =>
    simp only [hdst, put1] at hT
    have : g ≠ i := fun e => by subst e; simp [gslot, ho, hdst] at hd
    exact h g (by omega) d hd c f hT
  | some d' =>
    simp only [hdst, put1] at hT
    by_cases e : d' = d
    · subst e
      rw [List.getElem?_set_self'] at hT
      cases hTd : T[d']? with
      | none => simp [hTd] at hT
      | some u => simp [hTd] at hT; exact anorm_lit hT
    · rw [List.getElem?_set_ne e] at hT
      have : g ≠ i := fun e' => by subst e'; simp only [gslot, ho, hdst, Option.some.injEq] at hd; exact e hd
      exact h g (by omega) d hd c f hT

theorem trace (hgd : ∀ (i : Nat) (o : Oper) (g : Nat) (b : Bool), ops[i]? = some o → o.guard = some (g, b) → g < i) {cm : Bool} {n0 : Nat} {Tt : List Nat} {V : Heap} {R : Type} {k : AS → Option R} {r : R} :
    ∀ (l : List (Oper × Nat × Bool)) (i : Nat) (Hs : List Heap) (s : AS), adrs P Γ ops cm n0 Tt V l Hs s k = some r → Hs.length = i + 1 → Hs[i]? = some s.heap →
      (∀ j o lo hid, l[j]? = some (o, lo, hid) → ops[i + j]? = some o ∧ lo ≤ i + j) → NormUpTo ops i s.tmps →
      ∃ (ts : List TV) (Hn : List Heap), ts.length = l.length ∧ Hn.length = l.length ∧
        k { s with tmps := puts (l.map (·.1)) ts s.tmps, heap := (Hs ++ Hn).getD (i + l.length) [] } = some r ∧
        ∀ (j : Nat) (o : Oper) (lo : Nat) (hid : Bool) (t : TV), l[j]? = some (o, lo, hid) → ts[j]? = some t →
          StepOK P Γ ops cm n0 Tt o (puts ((l.map (·.1)).take j) (ts.take j) s.tmps) ((Hs ++ Hn).getD (i + j) []) ((Hs ++ Hn).getD (i + j + 1) []) (if hid = true then V else (Hs ++ Hn).getD lo []) t
  | [], i, Hs, s, e, hl, hh, _, _ => by
    refine ⟨[], [], rfl, rfl, ?_, fun j o lo hid t h => by simp at h⟩
    have : (Hs ++ []).getD (i + 0) [] = s.heap := by simp [hh]
    simp only [List.length_nil, this]
    exact e
  | (o, lo, hid) :: l, i, Hs, s, e, hl, hh, hi, hn => by
    obtain ⟨ho, hlo⟩ := hi 0 o lo hid rfl
    simp only [Nat.add_zero] at ho hlo
    have lits : Lits ops o s.tmps := fun g b d hg hd c f hc => hn g (hgd i o g b ho hg) d hd c f hc
    have hcur : ∀ Hn : List Heap, (Hs ++ Hn).getD i [] = s.heap := fun Hn => by
      rw [List.getD_eq_getElem?_getD, List.getElem?_append_left (by omega), hh]; rfl
    have hold : ∀ (Hn : List Heap) (m : Nat), m ≤ i → (Hs ++ Hn).getD m [] = Hs.getD m [] := fun Hn m hm => by
      rw [List.getD_eq_getElem?_getD, List.getElem?_append_left (by omega), ← List.getD_eq_getElem?_getD]
    unfold adrs at e
    split at e
    · rename_i he
      split at e
      rotate_left
      · simp at e
      rename_i hcm
      obtain ⟨t', h', e, hpush, hstep⟩ := aop_eff he lits e
      rw [anormAt_put, put_heap] at e
      have hnext : (Hs ++ [h'])[i + 1]? = some ({ s with heap := h' }.put o.dst (anorm t')).heap := by
        rw [put_heap, List.getElem?_append_right (by omega), hl]; simp
      have hn' : NormUpTo ops (i + 1) ({ s with heap := h' }.put o.dst (anorm t')).tmps := by
        rw [put1_put]; exact hn.put ho t'
      obtain ⟨ts, Hn, q1, q2, q3, q4⟩ := trace hgd l (i + 1) (Hs ++ [h']) _ e (by simp [hl]) hnext (fun j o lo hid hj => by
        have := hi (j + 1) o lo hid (by simpa using hj)
        rwa [show i + (j + 1) = i + 1 + j by omega] at this) hn'
      have happ : Hs ++ h' :: Hn = Hs ++ [h'] ++ Hn := by simp
      refine ⟨anorm t' :: ts, h' :: Hn, by simp [q1], by simp [q2], ?_, ?_⟩
      · rw [happ]
        have : (({ s with heap := h' } : AS).put o.dst (anorm t')).marks = s.marks := by rw [put_marks]
        rw [put1_put] at q3
        simp only [List.map_cons, puts, List.length_cons]
        rw [show i + (l.length + 1) = i + 1 + l.length by omega]
        have e3 : ∀ (T : List TV) (H : Heap), ({ (({ s with heap := h' } : AS).put o.dst (anorm t')) with tmps := T, heap := H } : AS) = { s with tmps := T, heap := H } := fun T H => by
          cases o.dst <;> rfl
        rw [e3] at q3
        exact q3
      · intro j o1 lo1 hid1 t1 hj ht
        cases j with
        | zero =>
          simp only [List.getElem?_cons_zero, Option.some.injEq, Prod.mk.injEq] at hj ht
          obtain ⟨rfl, rfl, rfl⟩ := hj
          subst ht
          have hH' : (Hs ++ h' :: Hn).getD (i + 0 + 1) [] = h' := by
            rw [List.getD_eq_getElem?_getD, List.getElem?_append_right (by omega), hl]; simp
          rw [hH', Nat.add_zero, hcur]
          refine ⟨⟨t', rfl, fun _ => ?_, fun h => by rw [he] at h; simp at h⟩, fun _ hp => hpush hp, fun h => by rw [he] at h; simp at h, fun hc _ hn0 => ?_⟩
          · simpa [puts] using hstep
          · subst hc
            simp only [Bool.not_true, Bool.false_or, Bool.or_eq_true] at hcm
            rcases hcm with hp | hk
            · obtain ⟨δ, hδ⟩ := hpush hp
              rw [hδ]
              exact ⟨by simp; omega, fun l hl _ => List.getElem?_append_left (by omega)⟩
            · have e5 := hstep s (fun _ _ => rfl) rfl AS some
              have := aop_keepsT hk hn0 e5
              rw [put_heap] at this
              exact this
        | succ j =>
          have := q4 j o1 lo1 hid1 t1 (by simpa using hj) (by simpa using ht)
          rw [put1_put] at this
          rw [happ, show i + (j + 1) = i + 1 + j by omega]
          simpa [puts] using this
    · rename_i he
      have he : isEff Γ o = false := by simpa using he
      obtain ⟨t', e, hstep⟩ := aop_read (r := { s with heap := if hid = true then V else Hs.getD lo [] }) he lits e
      have e4 : ({ ({ s with heap := if hid = true then V else Hs.getD lo [] } : AS).put o.dst t' with heap := s.heap } : AS) = s.put o.dst t' := by cases o.dst <;> rfl
      rw [e4, anormAt_put] at e
      have hnext : (Hs ++ [s.heap])[i + 1]? = some (s.put o.dst (anorm t')).heap := by
        rw [put_heap, List.getElem?_append_right (by omega), hl]; simp
      have hn' : NormUpTo ops (i + 1) (s.put o.dst (anorm t')).tmps := by
        rw [put1_put]; exact hn.put ho t'
      obtain ⟨ts, Hn, q1, q2, q3, q4⟩ := trace hgd l (i + 1) (Hs ++ [s.heap]) _ e (by simp [hl]) hnext (fun j o lo hid hj => by
        have := hi (j + 1) o lo hid (by simpa using hj)
        rwa [show i + (j + 1) = i + 1 + j by omega] at this) hn'
      have happ : Hs ++ s.heap :: Hn = Hs ++ [s.heap] ++ Hn := by simp
      refine ⟨anorm t' :: ts, s.heap :: Hn, by simp [q1], by simp [q2], ?_, ?_⟩
      · rw [happ]
        rw [put1_put] at q3
        simp only [List.map_cons, puts, List.length_cons]
        rw [show i + (l.length + 1) = i + 1 + l.length by omega]
        have e3 : ∀ (T : List TV) (H : Heap), ({ (s.put o.dst (anorm t')) with tmps := T, heap := H } : AS) = { s with tmps := T, heap := H } := fun T H => by
          cases o.dst <;> rfl
        rw [e3] at q3
        exact q3
      · intro j o1 lo1 hid1 t1 hj ht
        cases j with
        | zero =>
          simp only [List.getElem?_cons_zero, Option.some.injEq, Prod.mk.injEq] at hj ht
          obtain ⟨rfl, rfl, rfl⟩ := hj
          subst ht
          have hH' : (Hs ++ s.heap :: Hn).getD (i + 0 + 1) [] = s.heap := by
            rw [List.getD_eq_getElem?_getD, List.getElem?_append_right (by omega), hl]; simp
          rw [hH', Nat.add_zero, hcur, hold _ lo hlo]
          refine ⟨⟨t', rfl, fun h => by rw [he] at h; simp at h, fun _ => ?_⟩, fun h => by rw [he] at h; simp at h, fun _ => rfl, fun _ h => by rw [he] at h; simp at h⟩
          simpa [puts] using hstep
        | succ j =>
          have := q4 j o1 lo1 hid1 t1 (by simpa using hj) (by simpa using ht)
          rw [put1_put] at this
          rw [happ, show i + (j + 1) = i + 1 + j by omega]
          simpa [puts] using this
end
end Go.Proofs.AM
end

section
/- Regions that draw their order: every order. -/
namespace Go.Proofs.AM
open Go Go.RowKit

section
variable {P : Program} {Γ : Env} {ops : Array Oper}

theorem put1_len (T : List TV) (d : Option Nat) (t : TV) : (put1 T d t).length = T.length := by cases d <;> simp [put1]

theorem puts_len : ∀ (l : List Oper) (ts T : List TV), (puts l ts T).length = T.length
  | [], _, _ => rfl
  | _ :: _, [], _ => rfl
  | o :: l, t :: ts, T => by
    show (puts l ts (put1 T o.dst t)).length = _
    rw [puts_len l, put1_len]

theorem puts_none {d : Nat} : ∀ (l : List Oper) (ts T : List TV), (∀ o ∈ l, o.dst ≠ some d) → (puts l ts T)[d]? = T[d]?
  | [], _, _, _ => rfl
  | _ :: _, [], _, _ => rfl
  | o :: l, t :: ts, T, h => by
    show (puts l ts (put1 T o.dst t))[d]? = _
    rw [puts_none l ts _ (fun o ho => h o (by simp [ho]))]
    have := h o (by simp)
    cases hd : o.dst with
    | none => rfl
    | some d' =>
      simp only [put1]
      rw [List.getElem?_set_ne (fun e => this (by rw [hd, e]))]

theorem puts_some {d : Nat} : ∀ (l : List Oper) (ts T : List TV) (j : Nat) (o : Oper) (t : TV), l[j]? = some o → ts[j]? = some t → o.dst = some d → (∀ j' o', j' ≠ j → l[j']? = some o' → o'.dst ≠ some d) → d < T.length → (puts l ts T)[d]? = some t
  | [], _, _, j, _, _, h, _, _, _, _ => by simp at h
  | _ :: _, [], _, j, _, _, _, h, _, _, _ => by simp at h
  | o :: l, t :: ts, T, 0, o', t', h, h', hd, hu, hl => by
    simp only [List.getElem?_cons_zero, Option.some.injEq] at h h'
    subst h; subst h'
    show (puts l ts (put1 T o.dst t))[d]? = _
    rw [puts_none l ts _ (fun p hp => by
      obtain ⟨q, hq⟩ := List.getElem?_of_mem hp
      exact hu (q + 1) p (by omega) (by simpa using hq))]
    simp [hd, put1, hl]
  | o :: l, t :: ts, T, j + 1, o', t', h, h', hd, hu, hl => by
    show (puts l ts (put1 T o.dst t))[d]? = _
    refine puts_some l ts _ j o' t' (by simpa using h) (by simpa using h') hd (fun j' p hne hp => hu (j' + 1) p (by omega) (by simpa using hp)) ?_
    rw [put1_len]; exact hl

theorem drawInfo_map {Γ : Env} {l : List Oper} {tab : List (List Nat)} : ∀ (r : List Oper) (i : Nat), (drawInfo Γ l tab r i).map (·.1) = r
  | [], _ => rfl
  | o :: r, i => by simp [drawInfo, drawInfo_map r]

theorem Reach.lt (D : DrawP Γ ops) {j i : Nat} (h : Reach ops j i) : j < i := by
  induction h with
  | one ho hj => exact D.dir _ _ ho _ hj
  | step _ ho hj ih => have := D.dir _ _ ho _ hj; omega

/-- What the reckoning in the order of the text has found. -/
structure Ref (P : Program) (Γ : Env) (ops : Array Oper) (s0 : AS) {R : Type} (k : AS → Option R) (r : R) (ts : List TV) (HH : Nat → Heap) (cm : Bool) (Tt : List Nat) : Prop where
  dp : DrawP Γ ops
  len : ts.length = ops.size
  h0 : HH 0 = s0.heap
  fin : k { s0 with tmps := puts ops.toList ts s0.tmps, heap := HH ops.size } = some r
  step : ∀ (i : Nat) (o : Oper), ops[i]? = some o → ∃ lo hid t, ts[i]? = some t ∧ InfoP Γ ops i lo hid ∧
    StepOK P Γ ops cm s0.heap.length Tt o (puts (ops.toList.take i) (ts.take i) s0.tmps) (HH i) (HH (i + 1)) (if hid = true then (if cm = true then killL s0.heap Tt else []) else HH lo) t

theorem adraw_ref {s0 : AS} {R : Type} {k : AS → Option R} {r : R} (e : adraw P Γ ops s0 k = some r) : ∃ ts HH cm Tt, Ref P Γ ops s0 k r ts HH cm Tt := by
  unfold adraw at e
  dsimp only at e
  split at e
  rotate_left
  · simp at e
  rename_i hok
  have ht : ∀ i j, j ∈ (cloTab ops.toList []).getD i [] → Reach ops j i := cloTab_ok ops.toList [] rfl (fun i j h => by simp at h)
  have D := drawOK_ok ht hok
  have hinfo := drawInfo_ok (Γ := Γ) ht ops.toList 0 rfl
  have main : ∃ (cm : Bool) (Tt : List Nat), adrs P Γ ops cm s0.heap.length Tt (if cm = true then killL s0.heap Tt else []) (drawInfo Γ ops.toList (cloTab ops.toList []) ops.toList 0) [s0.heap] s0 k = some r := by
    split at e
    · exact ⟨true, [], e⟩
    · split at e
      · exact ⟨true, _, e⟩
      · exact ⟨false, [], e⟩
  clear e
  obtain ⟨cm, Tt, e⟩ := main
  obtain ⟨ts, Hn, q1, q2, q3, q4⟩ := trace D.gd (drawInfo Γ ops.toList (cloTab ops.toList []) ops.toList 0) 0 [s0.heap] s0 e rfl rfl
    (fun j o lo hid hj => by
      obtain ⟨h1, h2⟩ := hinfo j o lo hid hj
      refine ⟨h1, ?_⟩
      rcases h2.low with h | ⟨e, p, h, _, _, hr⟩
      · omega
      · have := hr.lt D; omega) (fun g hg => by omega)
  rw [drawInfo_map] at q3 q4
  rw [drawInfo_len] at q1 q2 q3
  refine ⟨ts, fun m => ([s0.heap] ++ Hn).getD m [], cm, Tt, D, by rw [q1]; simp, rfl, ?_, fun i o ho => ?_⟩
  · rw [Nat.zero_add] at q3
    simpa using q3
  · have hi : i < ops.size := (Array.getElem?_eq_some_iff.1 ho).1
    have hl : i < (drawInfo Γ ops.toList (cloTab ops.toList []) ops.toList 0).length := by rw [drawInfo_len]; simpa using hi
    obtain ⟨⟨o', lo, hid⟩, hx⟩ : ∃ x, (drawInfo Γ ops.toList (cloTab ops.toList []) ops.toList 0)[i]? = some x := ⟨_, List.getElem?_eq_getElem hl⟩
    obtain ⟨h1, h2⟩ := hinfo i o' lo hid hx
    rw [Nat.zero_add] at h1 h2
    rw [ho] at h1; cases h1
    have hts : i < ts.length := by rw [q1]; simpa using hi
    have := q4 i o lo hid _ hx (List.getElem?_eq_getElem hts)
    rw [Nat.zero_add] at this
    exact ⟨lo, hid, _, List.getElem?_eq_getElem hts, h2, this⟩
end

section
variable {P : Program} {Γ : Env} {ops : Array Oper} {s0 : AS} {R : Type} {k : AS → Option R} {r : R} {ts : List TV} {HH : Nat → Heap} {cm : Bool} {Tt : List Nat}

theorem Ref.same (H : Ref P Γ ops s0 k r ts HH cm Tt) {a : Nat} : ∀ (b : Nat), a ≤ b → b ≤ ops.size → (∀ j o, a ≤ j → j < b → ops[j]? = some o → isEff Γ o = false) → HH a = HH b
  | 0, h, _, _ => by simp at h; rw [h]
  | b + 1, h, hb, hj => by
    by_cases e : a = b + 1
    · rw [e]
    · have ih := H.same b (by omega) (by omega) (fun j o h1 h2 h3 => hj j o h1 (by omega) h3)
      obtain ⟨lo, hid, t, _, _, hs⟩ := H.step b ops[b] (Array.getElem?_eq_getElem (by omega))
      rw [ih, hs.same (hj b _ (by omega) (by omega) (Array.getElem?_eq_getElem (by omega)))]

/-- What lay there ahead stays. -/
theorem Ref.calm (H : Ref P Γ ops s0 k r ts HH cm Tt) (hc : cm = true) : ∀ (b : Nat), b ≤ ops.size → s0.heap.length ≤ (HH b).length ∧ ∀ l, l < s0.heap.length → l ∉ Tt → (HH b)[l]? = s0.heap[l]?
  | 0, _ => by rw [H.h0]; exact ⟨Nat.le_refl _, fun _ _ _ => rfl⟩
  | b + 1, hb => by
    have ih := H.calm hc b (by omega)
    obtain ⟨lo, hid, t, _, _, hs⟩ := H.step b ops[b] (Array.getElem?_eq_getElem (by omega))
    cases he : isEff Γ ops[b] with
    | false => rw [hs.same he]; exact ih
    | true =>
      obtain ⟨h1, h2⟩ := hs.keep hc he ih.1
      exact ⟨h1, fun l hl hT => by rw [h2 l hl hT, ih.2 l hl hT]⟩

theorem Ref.sub (H : Ref P Γ ops s0 k r ts HH cm Tt) {m : Nat} (hm : m ≤ ops.size) : Sub (if cm = true then killL s0.heap Tt else []) (HH m) := by
  by_cases hc : cm = true
  · rw [if_pos hc]
    intro l
    by_cases hT : l ∈ Tt
    · left; exact killL_mem _ _ _ hT
    by_cases hl : l < s0.heap.length
    · right
      unfold hat
      rw [(H.calm hc m hm).2 l hl hT, killL_ne _ _ _ hT]
    · left
      unfold hat
      rw [List.getElem?_eq_none (by rw [killL_len]; omega)]
  · rw [if_neg hc]; exact Sub.nil _

theorem Ref.pre (H : Ref P Γ ops s0 k r ts HH cm Tt) {a : Nat} : ∀ (b : Nat), a ≤ b → b ≤ ops.size → (∀ j o, a ≤ j → j < b → ops[j]? = some o → isEff Γ o = true → isPush Γ o = true) → ∃ δ, HH b = HH a ++ δ
  | 0, h, _, _ => ⟨[], by simp at h; simp [h]⟩
  | b + 1, h, hb, hj => by
    by_cases e : a = b + 1
    · exact ⟨[], by simp [e]⟩
    · obtain ⟨δ, ih⟩ := H.pre b (by omega) (by omega) (fun j o h1 h2 h3 => hj j o h1 (by omega) h3)
      obtain ⟨lo, hid, t, _, _, hs⟩ := H.step b ops[b] (Array.getElem?_eq_getElem (by omega))
      cases he : isEff Γ ops[b] with
      | false => exact ⟨δ, by rw [hs.same he, ih]⟩
      | true =>
        obtain ⟨δ', h'⟩ := hs.push he (hj b _ (by omega) (by omega) (Array.getElem?_eq_getElem (by omega)) he)
        exact ⟨δ ++ δ', by rw [h', ih, List.append_assoc]⟩

def Cl (ops : Array Oper) (L : Array Bool) : Prop := ∀ (i : Nat) (o : Oper), ops[i]? = some o → L.getD i false = true → ∀ j ∈ dirs o, L.getD j false = true

theorem Cl.reach {L : Array Bool} (h : Cl ops L) {j i : Nat} (hr : Reach ops j i) : L.getD i false = true → L.getD j false = true := by
  induction hr with
  | one ho hj => exact fun hi => h _ _ ho hi _ hj
  | step _ ho hj ih => exact fun hi => ih (h _ _ ho hi _ hj)

/-- The state in which some operations are done. -/
structure SI (Γ : Env) (ops : Array Oper) (s0 : AS) (ts : List TV) (HH : Nat → Heap) (L : Array Bool) (s : AS) : Prop where
  len : s.tmps.length = s0.tmps.length
  done : ∀ (j : Nat) (o : Oper) (d : Nat) (t : TV), ops[j]? = some o → L.getD j false = true → o.dst = some d → ts[j]? = some t → d < s0.tmps.length → s.tmps[d]? = some t
  rest : ∀ (d : Nat), (∀ (j : Nat) (o : Oper), ops[j]? = some o → L.getD j false = true → o.dst ≠ some d) → s.tmps[d]? = s0.tmps[d]?
  mrk : s.marks = s0.marks
  heap : ∃ m, m ≤ ops.size ∧ s.heap = HH m ∧ ∀ (j : Nat) (o : Oper), ops[j]? = some o → isEff Γ o = true → (L.getD j false = true ↔ j < m)

theorem SI.final (H : Ref P Γ ops s0 k r ts HH cm Tt) {L : Array Bool} {s : AS} (S : SI Γ ops s0 ts HH L s) (hall : ∀ j, j < ops.size → L.getD j false = true) : k s = some r := by
  have e : s = { s0 with tmps := puts ops.toList ts s0.tmps, heap := HH ops.size } := by
    obtain ⟨m, h1, h2, h3⟩ := S.heap
    have hh : HH m = HH ops.size := H.same ops.size h1 (Nat.le_refl _) (fun j o g1 g2 g3 => by
      cases he : isEff Γ o with
      | false => rfl
      | true => have := (h3 j o g3 he).1 (hall j g2); omega)
    have ht : s.tmps = puts ops.toList ts s0.tmps := by
      apply List.ext_getElem?
      intro d
      by_cases hd : d < s0.tmps.length
      · by_cases hx : ∃ (j : Nat) (o : Oper), ops[j]? = some o ∧ o.dst = some d
        · obtain ⟨j, o, ho, hdo⟩ := hx
          have hj : j < ops.size := (Array.getElem?_eq_some_iff.1 ho).1
          have htj : ts[j]? = some (ts[j]'(by rw [H.len]; exact hj)) := List.getElem?_eq_getElem _
          rw [S.done j o d _ ho (hall j hj) hdo htj hd]
          symm
          refine puts_some _ _ _ j o _ (by simpa using ho) htj hdo (fun j' o' hne ho' hd' => ?_) hd
          exact hne (H.dp.dst j' j o' o d (by simpa using ho') ho hd' hdo)
        · rw [S.rest d (fun j o ho _ hdo => hx ⟨j, o, ho, hdo⟩)]
          rw [puts_none _ _ _ (fun o ho hdo => by
            obtain ⟨j, hj⟩ := List.getElem?_of_mem ho
            exact hx ⟨j, o, by simpa using hj, hdo⟩)]
      · rw [List.getElem?_eq_none (by have := S.len; omega), List.getElem?_eq_none (by rw [puts_len]; omega)]
    have hm := S.mrk
    cases s
    simp_all
  rw [e]; exact H.fin

theorem SI.like (H : Ref P Γ ops s0 k r ts HH cm Tt) {L : Array Bool} {s : AS} (S : SI Γ ops s0 ts HH L s) (hcl : Cl ops L) {i : Nat} {o : Oper} (ho : ops[i]? = some o) (hi : L.getD i false = false) (hd : ∀ j ∈ dirs o, L.getD j false = true) :
    LikeT ops o (puts (ops.toList.take i) (ts.take i) s0.tmps) s.tmps := by
  have hreach : ∀ {j : Nat}, Reach ops j i → L.getD j false = true := by
    intro j hr
    cases hr with
    | one ho' hj => rw [ho] at ho'; cases ho'; exact hd _ hj
    | step hr' ho' hj => rw [ho] at ho'; cases ho'; exact hcl.reach hr' (hd _ hj)
  have htake : ∀ (j : Nat) (o' : Oper), (ops.toList.take i)[j]? = some o' → j < i ∧ ops[j]? = some o' := fun j o' h => by
    rw [List.getElem?_take] at h
    split at h
    · exact ⟨by assumption, by simpa using h⟩
    · simp at h
  intro d hdl
  rcases Nat.lt_or_ge d s0.tmps.length with hlen | hlen
  rotate_left
  · rw [List.getElem?_eq_none (by have := S.len; omega), List.getElem?_eq_none (by rw [puts_len]; omega)]
  by_cases hx : ∃ (j : Nat) (p : Oper), ops[j]? = some p ∧ p.dst = some d
  · obtain ⟨j, p, hp, hdp⟩ := hx
    have uniq : ∀ (j' : Nat) (p' : Oper), ops[j']? = some p' → p'.dst = some d → j' = j := fun j' p' h1 h2 => H.dp.dst j' j p' p d h1 hp h2 hdp
    have undone : L.getD j false = false → i ≤ j → s.tmps[d]? = (puts (ops.toList.take i) (ts.take i) s0.tmps)[d]? := by
      intro hL hij
      rw [S.rest d (fun j' o' h1 h2 h3 => by rw [uniq j' o' h1 h3, hL] at h2; simp at h2)]
      rw [puts_none _ _ _ (fun o' ho' hd' => by
        obtain ⟨j', hj'⟩ := List.getElem?_of_mem ho'
        obtain ⟨g1, g2⟩ := htake j' o' hj'
        have := uniq j' o' g2 hd'
        omega)]
    rcases H.dp.look i j o p d ho hp hdp hdl with rfl | hr | hr
    · exact undone hi (Nat.le_refl _)
    · have hj := hr.lt H.dp
      have hjs : j < ts.length := by rw [H.len]; exact (Array.getElem?_eq_some_iff.1 hp).1
      have htj : ts[j]? = some ts[j] := List.getElem?_eq_getElem hjs
      rw [S.done j p d _ hp (hreach hr) hdp htj hlen]
      symm
      refine puts_some _ _ _ j p _ ?_ ?_ hdp (fun j' o' hne ho' hd' => ?_) hlen
      · rw [List.getElem?_take]; simp [hj]; simpa using hp
      · rw [List.getElem?_take]; simp [hj]
      · exact hne (uniq j' o' (htake j' o' ho').2 hd')
    · have hj := hr.lt H.dp
      refine undone ?_ (Nat.le_of_lt hj)
      cases hL : L.getD j false with
      | false => rfl
      | true => have := hcl.reach hr hL; rw [hi] at this; simp at this
  · rw [S.rest d (fun j o ho _ hdo => hx ⟨j, o, ho, hdo⟩)]
    rw [puts_none _ _ _ (fun o' ho' hd' => by
      obtain ⟨j', hj'⟩ := List.getElem?_of_mem ho'
      exact hx ⟨j', o', (htake j' o' hj').2, hd'⟩)]

/-- One operation more. -/
theorem SI.next (H : Ref P Γ ops s0 k r ts HH cm Tt) {L : Array Bool} {s : AS} (S : SI Γ ops s0 ts HH L s) (hcl : Cl ops L) (hsz : L.size = ops.size) {i : Nat} {o : Oper} (ho : ops[i]? = some o) (hi : L.getD i false = false) (hd : ∀ j ∈ dirs o, L.getD j false = true) :
    ∃ s', aop P Γ ops o s some = some s' ∧ SI Γ ops s0 ts HH (L.setIfInBounds i true) (anormAt s' o.dst) := by
  have hreach : ∀ {j : Nat}, Reach ops j i → L.getD j false = true := by
    intro j hr
    cases hr with
    | one ho' hj => rw [ho] at ho'; cases ho'; exact hd _ hj
    | step hr' ho' hj => rw [ho] at ho'; cases ho'; exact hcl.reach hr' (hd _ hj)
  have hin : i < ops.size := (Array.getElem?_eq_some_iff.1 ho).1
  have like := S.like H hcl ho hi hd
  obtain ⟨lo, hid, t, ht, hinf, hs⟩ := H.step i o ho
  obtain ⟨t', hn, hE, hR⟩ := hs.ex
  have hset : ∀ j, (L.setIfInBounds i true).getD j false = true ↔ (j = i ∨ L.getD j false = true) := by
    intro j
    by_cases e : i = j
    · subst e
      simp [hsz, hin]
    · have : (L.setIfInBounds i true).getD j false = L.getD j false := by simp [Array.getElem?_setIfInBounds_ne e]
      rw [this]
      constructor
      · exact .inr
      · rintro (h | h)
        · exact absurd h.symm e
        · exact h
  -- the slots
  have core : ∀ (h' : Heap), (∃ m, m ≤ ops.size ∧ h' = HH m ∧ ∀ (j : Nat) (p : Oper), ops[j]? = some p → isEff Γ p = true → ((L.setIfInBounds i true).getD j false = true ↔ j < m)) →
      SI Γ ops s0 ts HH (L.setIfInBounds i true) (anormAt (({ s with heap := h' } : AS).put o.dst t') o.dst) := by
    intro h' hheap
    rw [anormAt_put, hn]
    refine ⟨?_, fun j p d t1 hp hL hdp ht1 hlen => ?_, fun d hno => ?_, ?_, ?_⟩
    · rw [put1_put, put1_len]; exact S.len
    · rw [put1_put]
      by_cases e : j = i
      · subst e
        rw [ho] at hp; cases hp
        rw [ht] at ht1; cases ht1
        simp only [hdp, put1]
        rw [List.getElem?_set_self (by rw [S.len]; exact hlen)]
      · have hL' : L.getD j false = true := by
          rcases (hset j).1 hL with h | h
          · exact absurd h e
          · exact h
        have hne : o.dst ≠ some d := fun h => e (H.dp.dst j i p o d hp ho hdp h)
        have : (put1 s.tmps o.dst t)[d]? = s.tmps[d]? := by
          cases hod : o.dst with
          | none => rfl
          | some d' => simp only [put1]; rw [List.getElem?_set_ne (fun h => hne (by rw [hod, h]))]
        rw [this]
        exact S.done j p d t1 hp hL' hdp ht1 hlen
    · rw [put1_put]
      have hne : o.dst ≠ some d := hno i o ho ((hset i).2 (.inl rfl))
      have : (put1 s.tmps o.dst t)[d]? = s.tmps[d]? := by
        cases hod : o.dst with
        | none => rfl
        | some d' => simp only [put1]; rw [List.getElem?_set_ne (fun h => hne (by rw [hod, h]))]
      rw [this]
      exact S.rest d (fun j p hp hL => hno j p hp ((hset j).2 (.inr hL)))
    · rw [put_marks]; exact S.mrk
    · rw [put_heap]; exact hheap
  obtain ⟨m, hm1, hm2, hm3⟩ := S.heap
  cases he : isEff Γ o with
  | true =>
    -- between m and i no effect
    have hmi : m ≤ i := by
      cases Nat.lt_or_ge i m with
      | inl h => have := (hm3 i o ho he).2 h; rw [hi] at this; simp at this
      | inr h => exact h
    have hh : s.heap = HH i := by
      rw [hm2]
      refine H.same i hmi (Nat.le_of_lt hin) (fun j p g1 g2 g3 => ?_)
      cases hep : isEff Γ p with
      | false => rfl
      | true =>
        have := (hm3 j p g3 hep).1 (hreach (H.dp.eff j i p o g3 ho hep he g2))
        omega
    refine ⟨_, hE he s like hh AS some, core _ ⟨i + 1, hin, rfl, fun j p hp hep => ?_⟩⟩
    rw [hset]
    constructor
    · rintro (h | h)
      · omega
      · have := (hm3 j p hp hep).1 h; omega
    · intro h
      by_cases e : j = i
      · exact .inl e
      · exact .inr (hreach (H.dp.eff j i p o hp ho hep he (by omega)))
  | false =>
    have hsub : Sub (if hid = true then (if cm = true then killL s0.heap Tt else []) else HH lo) s.heap := by
      cases hh : hid with
      | true => rw [if_pos rfl, hm2]; exact H.sub hm1
      | false =>
        simp only [Bool.false_eq_true, if_false]
        have hlm : lo ≤ m := by
          rcases hinf.low with h | ⟨e, p, h, hp, hep, hr⟩
          · omega
          · have := (hm3 e p hp hep).1 (hreach hr); omega
        obtain ⟨δ, hδ⟩ := H.pre m hlm hm1 (fun j p g1 g2 g3 g4 => by
          rcases hinf.hide hh j p g3 g4 g1 with h | h | h
          · exact h
          · have := hcl.reach h ((hm3 j p g3 g4).2 g2); rw [hi] at this; simp at this
          · subst h; rw [ho] at g3; cases g3; rw [he] at g4; simp at g4)
        rw [hm2, hδ]
        exact Sub.app _ _
    refine ⟨_, hR he s like hsub AS some, ?_⟩
    have : s = { s with heap := s.heap } := rfl
    rw [this]
    refine core s.heap ⟨m, hm1, hm2, fun j p hp hep => ?_⟩
    rw [hset]
    constructor
    · rintro (h | h)
      · subst h; rw [ho] at hp; cases hp; rw [he] at hep; simp at hep
      · exact (hm3 j p hp hep).1 h
    · exact fun h => .inr ((hm3 j p hp hep).2 h)
end
end Go.Proofs.AM
end
