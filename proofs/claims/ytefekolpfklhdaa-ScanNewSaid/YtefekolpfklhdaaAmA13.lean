/- Makes, written-out slices, copies; all steps. -/
import Derived.Test.YtefekolpfklhdaaAmM5
set_option maxRecDepth 2000
set_option linter.unusedVariables false
set_option linter.unusedSimpArgs false
namespace Go.Proofs.AM
open Go Go.RowKit

section
variable {P : Program} {C : Cx} {s : AS} {β : List Bl} {a : Act} {w : World} {R : Type} {k : AS → Option R} {r : R} {F : Fence} {n : Nat} {Q : Exit → Act → World → Prop} {o : Oper}

/-- A new row of cells that the call owns. -/
theorem vec_step (hF : FW F) (h : Rel C s β a w) (hd : ∀ c, o.op ≠ .defer c) {e : TypeId} {q : K} {xs : List q.den} {fr : Bool} {mid post : List Value} {cap : Nat}
    (hr : (execOp a.eval o).run P w = .ok (.value (.slice (some ⟨w.heap.size, 0, none⟩) xs.length cap)) (w.alloc (.cells (mid ++ post).toArray e)))
    (hrow : rows (q.rd w (if fr then C.fresh s.heap β w else C.N s.heap β w)) xs mid) (hcap : mid.length + post.length = cap * q.size) (hle : xs.length ≤ cap)
    {im : Bool} (ee : k (s.made im o.dst e q xs fr) = some r) : o.wpIn F n P a w (After C s β (fun i => o.dst = some i) k r) Q := by
  have hnew : (w.alloc (.cells (mid ++ post).toArray e)).heap[w.heap.size]? = some (.cells (mid ++ post).toArray e) := heap_alloc_new w _
  obtain ⟨h2, mv⟩ := h.push (Grew.alloc w (.cells (mid ++ post).toArray e)) (.vec e q xs fr) ⟨w.heap.size, 0, q.size, xs.length, cap, true, none⟩ (fun b hb => by simp only [AObj.occ, if_true, List.mem_singleton] at hb; subst hb; simp)
    (fun mv hN hNf => by
      refine ⟨rfl, rfl, hle, ?_⟩
      simp only [if_true]
      refine ⟨[], mid, post, by rw [hnew]; simp, rfl, ?_, hcap⟩
      refine rows_weak (fun b hb => ?_) (fun b hb => ?_) hrow
      · refine (Grew.alloc w _).block b ?_
        cases fr
        · exact hb.2.1
        · exact hb.2.1
      · cases fr
        · exact hN b hb
        · exact hNf b hb)
  cases im with
  | false =>
    refine wpIn_value hF hd hr ⟨_, _, ee, h2.put _ _ _ ?_, (Ext.push _ s β _ _).trans (Ext.put _ _ _ _)⟩
    exact ⟨⟨w.heap.size, 0, q.size, xs.length, cap, true, none⟩, _, cap, by rw [← h.bsize]; simp, rfl, hle, .inl ⟨rfl, by simp [Bl.addr], by simp⟩⟩
  | true =>
    obtain ⟨h3, mv3⟩ := h.grew (Grew.alloc w (.cells (mid ++ post).toArray e))
    have hfresh : C.fresh s.heap β (w.alloc (.cells (mid ++ post).toArray e)) w.heap.size := ⟨h.keep.size, by simp, fun l o' rr e1 e2 hx => by
      have := (h.occ l o' rr _ e1 e2 hx).1; omega⟩
    have hN : ∀ b, C.N s.heap β w b → C.N s.heap β (w.alloc (.cells (mid ++ post).toArray e)) b := fun b hb => ⟨hb.1, by have := hb.2.1; simp; omega, hb.2.2⟩
    have hNf : ∀ b, C.fresh s.heap β w b → C.fresh s.heap β (w.alloc (.cells (mid ++ post).toArray e)) b := fun b hb => ⟨hb.1, by have := hb.2.1; simp; omega, hb.2.2⟩
    refine wpIn_value hF hd hr ⟨_, _, ee, h3.put _ _ _ ?_, Ext.put _ _ _ _⟩
    refine ⟨_, cap, rfl, hle, .inr ⟨w.heap.size, 0, mid, rfl, ?_, ?_, ?_⟩⟩
    · cases fr
      · exact Cx.fresh_N hfresh
      · exact hfresh
    · exact cellsAt_block (pre := []) (by simpa using hnew)
    · refine rows_weak (fun b hb => ?_) (fun b hb => ?_) hrow
      · refine (Grew.alloc w _).block b ?_
        cases fr
        · exact hb.2.1
        · exact hb.2.1
      · cases fr
        · exact hN b hb
        · exact hNf b hb

theorem rows_replicate {α : Type} {Q : α → List Value → Prop} {x : α} {c : List Value} (hx : Q x c) : ∀ n, rows Q (List.replicate n x) (List.replicate n c).flatten
  | 0 => rfl
  | n + 1 => ⟨c, (List.replicate n c).flatten, by simp [List.replicate_succ], hx, rows_replicate hx n⟩

theorem madeCells_rows (z : List Value) (hz : 0 < z.length) : ∀ n, (madeCells z.toArray (n * z.length)).toList = (List.replicate n z).flatten
  | 0 => by simp [madeCells]
  | n + 1 => by
    have ih := madeCells_rows z hz n
    rw [List.replicate_succ', List.flatten_append, ← ih]
    simp only [madeCells, Array.toList_map, Array.toList_range, List.flatten_cons, List.flatten_nil, List.append_nil]
    rw [Nat.add_mul, Nat.one_mul, List.range_add, List.map_append]
    congr 1
    apply List.ext_getElem
    · simp
    · intro i h1 h2
      have hi : i < z.length := by simpa using h1
      have e : (n * z.length + i) % z.length = i := by rw [Nat.mul_comm, Nat.mul_add_mod]; exact Nat.mod_eq_of_lt hi
      simp [e, hi]

theorem azero_R {e : TypeId} {z : List AV} (hz : azero P e = some z) : ∃ i zv, P.info? e = some i ∧ i.zero = some zv ∧ z.length = zv.cells.size ∧ All2 (AV.R w (C.N s.heap β w) (C.fresh s.heap β w) β) z zv.cells.toList := by
  obtain ⟨i, zv, hi, hzv, rfl⟩ := azero_some hz
  refine ⟨i, zv, hi, hzv, constTV_len zv, ?_⟩
  unfold constTV
  split
  · rename_i cs; simpa [TV.cells, Value.cells] using All2_const cs.toList
  · rename_i hne
    have hvc : zv.cells = #[zv] := by
      unfold Value.cells
      split
      · exact absurd rfl (hne _)
      · rfl
    rw [hvc]; exact ⟨constAV_R _, trivial⟩

theorem make_step (hF : FW F) (h : Rel C s β a w) {t : TypeId} {x y : Operand} (ho : o.op = .makeSlice t x y) {im : Bool} (ee : amake P s im o t x y k = some r) :
    o.wpIn F n P a w (After C s β (fun i => o.dst = some i) k r) Q := by
  unfold amake at ee
  split at ee
  rotate_left
  · simp at ee
  rename_i e m f1 u f2 ht hx hy
  split at ee
  rotate_left
  · simp at ee
  rename_i i q z hi hq hz
  split at ee
  rotate_left
  · simp at ee
  rename_i zd hzd
  split at ee
  rotate_left
  · simp at ee
  rename_i hs
  obtain ⟨h0, e1⟩ := gd_some ee; clear ee
  obtain ⟨h1, e2⟩ := gd_some e1; clear e1
  obtain ⟨h2, ee⟩ := gd_some e2; clear e2
  obtain ⟨m', rfl⟩ : ∃ m' : Int, m' = m := ⟨m, rfl⟩
  obtain ⟨u', rfl⟩ : ∃ u' : Int, u' = u := ⟨u, rfl⟩
  have h0 : (0 : Int) ≤ m' := h0
  have h1 : m' ≤ u' := h1
  have h2 : u' * (i.bytes : Int) ≤ 140737488355328 := h2
  obtain ⟨i', zv, hi', hzv, hzl, hzR⟩ := azero_R (C := C) (s := s) (β := β) (w := w) hz
  rw [hi] at hi'; cases hi'
  have hzr := of_sound h hzR hzd
  have hzlen := K.rd_len w _ q _ _ hzr
  have hu : u' ≤ u' * i.bytes := by
    have := Int.mul_le_mul_of_nonneg_left (show (1 : Int) ≤ i.bytes by omega) (show (0 : Int) ≤ u' by omega)
    simpa using this
  have hrun := run_make (P := P) w t e i zv (aelem_some ht) hi hzv   .i64 .i64 m' u' h0 h1 (by rw [Int.mul_comm]; omega) (by omega)
  have hcells : (madeCells zv.cells (u'.toNat * i.size)).toList = (List.replicate m'.toNat zv.cells.toList).flatten ++ (List.replicate (u'.toNat - m'.toNat) zv.cells.toList).flatten := by
    have := madeCells_rows zv.cells.toList (by omega) u'.toNat
    rw [← hzlen] at hs
    rw [hs.1]
    simp only [Array.toArray_toList] at this
    rw [this, ← List.flatten_append, List.replicate_append_replicate]
    congr 2; omega
  have hmk : madeCells zv.cells (u'.toNat * i.size) = ((List.replicate m'.toNat zv.cells.toList).flatten ++ (List.replicate (u'.toNat - m'.toNat) zv.cells.toList).flatten).toArray := by
    apply Array.ext'; rw [hcells]
  have len : ∀ j, ((List.replicate j zv.cells.toList).flatten).length = j * q.size := fun j => by
    simp [List.length_flatten, ← hzlen]
  refine vec_step hF h (by simp [ho]) (e := e) (q := q) (xs := List.replicate m'.toNat zd) (fr := true) (mid := (List.replicate m'.toNat zv.cells.toList).flatten) (post := (List.replicate (u'.toNat - m'.toNat) zv.cells.toList).flatten) (cap := u'.toNat) ?_ ?_ ?_ ?_ ee
  · rw [hmk] at hrun
    simp only [execOp, ho, h.evInt hx, h.evInt hy, Sem.run_bind, hrun, Result.andThen_ok, Sem.run_pure, List.length_replicate]
  · exact rows_replicate hzr _
  · rw [len, len, ← Nat.add_mul]; congr 1; omega
  · simp; omega

theorem aelems_sound (h : Rel C s β a w) {q : K} : ∀ {ps : List (Nat × Operand)} {j : Nat} {xs : List q.den} {f : Bool}, aelems s.heap q j (ps.map fun p => (p.1, s.ev p.2)) = some (xs, f) →
    ∃ news, rows (q.rd w (if f then C.fresh s.heap β w else C.N s.heap β w)) xs news ∧ xs.length = ps.length ∧ news.length = ps.length * q.size ∧
      ∀ (pre : List Value) (cells : Array Value), pre.length = j * q.size → cells.toList.take (j * q.size) = pre → cells.size = (j + ps.length) * q.size →
        Instr.fill (fun i => some (i * q.size, q.size)) cells (ps.map fun p => (p.1, a.eval p.2)) = some (pre ++ news).toArray
  | [], j, xs, f, e => by
    simp [aelems] at e
    obtain ⟨rfl, rfl⟩ := e
    refine ⟨[], rfl, rfl, by simp, fun pre cells h1 h2 h3 => ?_⟩
    simp only [List.map_nil, Instr.fill, Option.some.injEq, List.append_nil]
    apply Array.ext'
    rw [← h2, List.take_of_length_le (by simp at h3 ⊢; omega)]
  | p :: ps, j, xs, f, e => by
    simp only [List.map_cons] at e
    unfold aelems at e
    split at e
    rotate_left
    · simp at e
    rename_i hc
    obtain ⟨rfl, hsol, hlen⟩ := hc
    split at e
    rotate_left
    · simp at e
    rename_i x1 f1 xs1 g1 hx1 hxs
    simp only [Option.some.injEq, Prod.mk.injEq] at e
    obtain ⟨rfl, rfl⟩ := e
    obtain ⟨news, hr, hl1, hl2, hfill⟩ := aelems_sound h hxs
    have hcl := TV.R_cells (h.ev p.2) hsol
    have hx := of_sound h hcl hx1
    have hvl := hcl.len
    simp only [Array.length_toList] at hvl
    refine ⟨(a.eval p.2).cells.toList ++ news, ⟨_, news, rfl, ?_, ?_⟩, by simp [hl1], ?_, ?_⟩
    · refine K.rd_mono (fun _ _ => rfl) (fun b hb => ?_) _ _ _ hx
      cases f1 <;> cases g1 <;> first | exact hb | exact Cx.fresh_N hb
    · exact rows_weak (fun _ _ => rfl) (fun b hb => fl_weak hb (by simp)) hr
    · simp [hl2, ← hvl, hlen, Nat.add_mul]; omega
    · intro pre cells h1 h2 h3
      simp only [List.map_cons]
      unfold Instr.fill
      simp only [List.length_cons] at h3
      have hfit : p.1 * q.size + (a.eval p.2).cells.size ≤ cells.size := by rw [h3, ← hvl, hlen, Nat.add_mul, Nat.add_mul]; omega
      show (if _ then none else _) = _
      rw [if_neg (by simp only [ne_eq, Bool.or_eq_true, decide_eq_true_eq, not_or]; omega)]
      have hf := fill_step cells (a.eval p.2).cells (p.1 * q.size) hfit
      have := hfill (pre ++ (a.eval p.2).cells.toList) (cells.toList.take (p.1 * q.size) ++ (a.eval p.2).cells.toList ++ cells.toList.drop (p.1 * q.size + (a.eval p.2).cells.size)).toArray
        (by simp [h1, ← hvl, hlen, Nat.add_mul]) (by
          rw [h2]
          simp only [List.append_assoc]
          rw [← List.append_assoc, List.take_left' (by simp [h1, ← hvl, hlen, Nat.add_mul])])
        (by simp [h3, ← hvl, hlen, Nat.add_mul]; omega)
      rw [← List.append_assoc, ← this]
      congr 1

theorem buildSlice_step (hF : FW F) (h : Rel C s β a w) {t : TypeId} {m : Nat} {parts : Array (Nat × Operand)} (ho : o.op = .buildSlice t m parts) {im : Bool} (ee : abuildSlice P s im o t m parts.toList k = some r) :
    o.wpIn F n P a w (After C s β (fun i => o.dst = some i) k r) Q := by
  unfold abuildSlice at ee
  split at ee
  · simp at ee
  rename_i e ht
  split at ee
  rotate_left
  · simp at ee
  rename_i i q z hi hq hz
  split at ee
  rotate_left
  · simp at ee
  rename_i hs
  obtain ⟨hs1, hs2, hs3, hs4⟩ := hs
  split at ee
  rotate_left
  · simp at ee
  rename_i xs f hx
  obtain ⟨i', zv, hi', hzv, hzl, hzR⟩ := azero_R (C := C) (s := s) (β := β) (w := w) hz
  rw [hi] at hi'; cases hi'
  obtain ⟨news, hr, hl1, hl2, hfill⟩ := aelems_sound h hx
  have hcellsize : ∀ (cs : Array Value), ((Array.range (m * i.size)).map (cs[· % cs.size]!)).size = m * i.size := fun cs => by simp
  have hrun : (Instr.buildSlice t m (parts.map fun (x : Nat × Operand) => (x.1, a.eval x.2))).run P w = .ok (.slice (some ⟨w.heap.size, 0, none⟩) m m) (w.alloc (.cells news.toArray e)) := by
    unfold Instr.buildSlice
    simp only [Sem.run_bind, run_underlying' (aelem_some ht), Result.andThen_ok, run_sizeOf hi]
    rw [if_neg (by omega)]
    by_cases hm0 : m * i.size = 0
    · rw [if_pos hm0]
      rw [hs1] at hm0
      have := hfill [] #[] (by simp) (by simp) (by rw [hs3]; simpa using hm0.symm)
      simp only [List.nil_append] at this
      have he : ∀ g : Nat → Value, Array.map g (Array.range 0) = #[] := fun g => by apply Array.ext'; simp
      simp [hs1, hm0, this, newRow, he]
    · rw [if_neg hm0]
      simp only [Sem.run_bind, zeroValue, typeInfo, run_program, Result.andThen_ok, hi, Sem.run_pure, hzv]
      have := hfill [] ((Array.range (m * i.size)).map (zv.cells[· % zv.cells.size]!)) (by simp) (by simp) (by rw [hcellsize, ← hs3, hs1]; simp)
      simp only [List.nil_append] at this
      rw [hs1] at this ⊢
      simp only [Array.toList_map, this]
      simp [newRow]
  refine vec_step hF h (by simp [ho]) (e := e) (q := q) (xs := xs) (fr := f) (mid := news) (post := []) (cap := m) ?_ hr ?_ ?_ ee
  · simp only [execOp, ho, Sem.run_bind, hrun, Result.andThen_ok, Sem.run_pure, hl1, List.length_map, List.append_nil]
    rw [show parts.toList.length = m from hs3]
  · simp [hl2, hs3]
  · rw [hl1, ← hs3]; omega

/-- Some elements of an owned row are written over. -/
theorem over_step (h : Rel C s β a w) {l : Nat} {f : Bool} {T : TypeId} {q : K} {xs : List q.den} {fr fr2 : Bool} {rr : Bl} (hf : s.heap[l]? = some (f, .vec T q xs fr)) (hr : β[l]? = some rr) (hreal : rr.real = true)
    {off : Nat} {ys : List q.den} {news : List Value} (hle : off + ys.length ≤ xs.length) (hrn : rows (q.rd w (if fr2 then C.fresh s.heap β w else C.N s.heap β w)) ys news) :
    ∃ w', (storeCells ⟨rr.blk, rr.base + off * q.size, none⟩ news).run P w = .ok () w' ∧ Rel C (s.upd l (.vec T q (xs.take off ++ ys ++ xs.drop (off + ys.length)) (fr && fr2))) β a w' := by
  obtain ⟨g1, g2, g3, g4⟩ := h.ob l _ rr hf hr
  simp only [hreal, if_true] at g4
  obtain ⟨pre, mid, post, hh, hp, hrow, hcap⟩ := g4
  have hsplit : xs = xs.take off ++ ((xs.drop off).take ys.length ++ (xs.drop off).drop ys.length) := by rw [List.take_append_drop, List.take_append_drop]
  have hrow' := hrow
  rw [hsplit] at hrow'
  obtain ⟨m1, m2, rfl, r1, r2⟩ := rows.of_app hrow'
  obtain ⟨m3, m4, rfl, r3, r4⟩ := rows.of_app r2
  have e1 := rows.len (fun x c => K.rd_len w _ q x c) r1
  have e3 := rows.len (fun x c => K.rd_len w _ q x c) r3
  have en := rows.len (fun x c => K.rd_len w _ q x c) hrn
  have e1' : m1.length = off * q.size := by rw [e1]; congr 1; simp; omega
  have e3' : m3.length = news.length := by rw [e3, en]; congr 1; simp; omega
  have hst := run_store_block (P := P) (w := w) (b := rr.blk) (o := rr.base + off * q.size) (T := T) (pre := pre ++ m1) (old := m3) (post := m4 ++ post) (news := news)
    (by rw [hh]; simp) (by simp [hp, e1']) e3' (rows.one hrn)
  obtain ⟨f1, f2, f3, f4, f5⟩ := setRow_facts w rr.blk (pre ++ m1 ++ news ++ (m4 ++ post)).toArray
  have hrows : ∀ (w' : World) (M' : Nat → Prop), (∀ b, (if (fr && fr2) = true then C.fresh s.heap β w else C.N s.heap β w) b → w'.heap[b]? = w.heap[b]?) →
      (∀ b, (if (fr && fr2) = true then C.fresh s.heap β w else C.N s.heap β w) b → M' b) → rows (q.rd w' M') (xs.take off ++ ys ++ xs.drop (off + ys.length)) (m1 ++ news ++ m4) := by
    intro w' M' hw' hM'
    have a1 := rows_weak hw' hM' (rows_weak (fun _ _ => rfl) (fun b hb => fl_weak hb (by simp; exact fun h _ => h)) r1)
    have a2 := rows_weak hw' hM' (rows_weak (fun _ _ => rfl) (fun b hb => fl_weak hb (by simp)) hrn)
    have a4 := rows_weak hw' hM' (rows_weak (fun _ _ => rfl) (fun b hb => fl_weak hb (by simp; exact fun h _ => h)) r4)
    rw [List.drop_drop] at a4
    exact (a1.app a2).app a4
  refine ⟨_, hst, ?_⟩
  refine (h.upd l _ (.vec T q (xs.take off ++ ys ++ xs.drop (off + ys.length)) (fr && fr2)) rr hf hr f1 f2 f3 (by omega) (fun b _ hb => f5 b (fun e => hb (by simp [AObj.occ, e, hreal]))) (by simp) (fun b hb => hb) (fun mv hN hNf hbl => ?_)).1
  refine ⟨by simp; omega, g2, g3, ?_⟩
  simp only [hreal, if_true]
  refine ⟨pre, m1 ++ news ++ m4, post, by rw [setRow_same hh]; simp, hp, ?_, ?_⟩
  · refine hrows _ _ (fun b hb => hbl b ?_) fun b hb => ?_
    · cases hg : (fr && fr2) <;> rw [hg] at hb
      · exact hb
      · exact Cx.fresh_N hb
    · by_cases hg : (fr && fr2) = true
      · rw [if_pos hg] at hb ⊢; exact hNf b hb
      · rw [if_neg hg] at hb ⊢; exact hN b hb
  · simp only [List.length_append] at hcap ⊢; omega

/-- An owned row stays, with less known of it. -/
theorem weak_step (h : Rel C s β a w) {l : Nat} {f : Bool} {T : TypeId} {q : K} {xs : List q.den} {fr : Bool} (fr2 : Bool) (hf : s.heap[l]? = some (f, .vec T q xs fr)) : Rel C (s.upd l (.vec T q xs (fr && fr2))) β a w := by
  have hl := (List.getElem?_eq_some_iff.1 hf).1
  obtain ⟨rr, hr⟩ : ∃ r, β[l]? = some r := ⟨_, List.getElem?_eq_getElem (by rw [h.bsize]; exact hl)⟩
  obtain ⟨g1, g2, g3, g4⟩ := h.ob l _ rr hf hr
  refine (h.upd l _ (.vec T q xs (fr && fr2)) rr hf hr rfl rfl rfl (Nat.le_refl _) (fun _ _ _ => rfl) (by simp) (fun b hb => hb) (fun mv hN hNf hbl => ?_)).1
  refine ⟨g1, g2, g3, ?_⟩
  by_cases hreal : rr.real = true
  · simp only [hreal, if_true] at g4 ⊢
    obtain ⟨pre, mid, post, hh, hp, hrow, hcap⟩ := g4
    refine ⟨pre, mid, post, hh, hp, rows_weak (fun _ _ => rfl) (fun b hb => ?_) (rows_weak (fun _ _ => rfl) (fun b hb => fl_weak (g := fr && fr2) hb (by simp; exact fun h _ => h)) hrow), hcap⟩
    by_cases hg : (fr && fr2) = true
    · rw [if_pos hg] at hb ⊢; exact hNf b hb
    · rw [if_neg hg] at hb ⊢; exact hN b hb
  · simp only [hreal] at g4 ⊢
    exact g4

theorem copy_step (hF : FW F) (h : Rel C s β a w) {c : Call} (ho : o.op = .call c) (hcal : c.callee = .builtin .copy) (ee : acopy P s o c k = some r) :
    o.wpIn F n P a w (After C s β (fun i => o.dst = some i) k r) Q := by
  unfold acopy at ee
  split at ee
  rotate_left
  · simp at ee
  rename_i x y t ts hargs htys
  have hargs' : c.args = #[x, y] := by rw [← Array.toArray_toList (xs := c.args), hargs]
  have htys' : c.argTypes[0]? = some t := by rw [← Array.toArray_toList (xs := c.argTypes), htys]; rfl
  split at ee
  rotate_left
  · simp at ee
  rename_i e xa ya ht hx hy
  split at ee
  rotate_left
  · simp at ee
  rename_i q ys fr2 hb
  obtain ⟨B, c2, news, hv, hle, hrn, hcn⟩ := src_cells h (h.ev1 hy) hb
  generalize (fr2 || q.flat) = fr3 at ee hrn
  have hmin : ∀ dl, Nat.min ys.length dl = min ys.length dl := fun _ => rfl
  have run : ∀ (b o' : Nat) (dl dc : Nat) (inf : TypeInfo) (nn : List Value) (w' : World), a.eval x = .slice (some ⟨b, o', none⟩) dl dc → P.info? e = some inf → inf.size = q.size → nn.length = (min ys.length dl) * q.size →
      (min ys.length dl = 0 ∨ ∃ b o, B = some ⟨b, o, none⟩ ∧ cellsAt w b o nn) → (storeCells ⟨b, o', none⟩ nn).run P w = .ok () w' →
      (execOp a.eval o).run P w = .ok (.value (.int .i64 (min ys.length dl : Nat))) w' := by
    intro b o' dl dc inf nn w' hax hi hs hl hcc hst
    have hfc := run_firstCells' (P := P) (w := w) (A := B) (len := ys.length) (c := c2) (size := inf.size) (news := nn) (m := min ys.length dl) (by rw [hl, hs]) hcc
    simp only [execOp, ho, resolve, hcal, hargs', List.map_toArray, List.map_cons, List.map_nil, Sem.run_bind, Sem.run_pure, Result.andThen_ok, invoke, builtin, Builtin.copy_, htys', hv, hax]
    simp [run_underlying' (aelem_some ht), Builtin.lenOf, run_sizeOf hi, hfc, goInt, hmin, hst]
  have run0 : ∀ (A : Option Addr) (dl dc : Nat) (inf : TypeInfo), a.eval x = .slice A dl dc → P.info? e = some inf → min ys.length dl = 0 → (execOp a.eval o).run P w = .ok (.value (.int .i64 (min ys.length dl : Nat))) w := by
    intro A dl dc inf hax hi hz
    have hfc := run_firstCells' (P := P) (w := w) (A := B) (len := ys.length) (c := c2) (size := inf.size) (news := []) (m := min ys.length dl) (by simp [hz]) (.inl hz)
    simp only [execOp, ho, resolve, hcal, hargs', List.map_toArray, List.map_cons, List.map_nil, Sem.run_bind, Sem.run_pure, Result.andThen_ok, invoke, builtin, Builtin.copy_, htys', hv, hax]
    cases A with
    | none => simp [run_underlying' (aelem_some ht), Builtin.lenOf, run_sizeOf hi, hfc, goInt, hmin]
    | some ad =>
      have hst0 : (storeCells ad []).run P w = .ok () w := rfl
      simp [run_underlying' (aelem_some ht), Builtin.lenOf, run_sizeOf hi, hfc, goInt, hmin, hst0]
  have take : ∀ d, ∃ nn, nn.length = (min ys.length d) * q.size ∧ rows (q.rd w (if fr3 then C.fresh s.heap β w else C.N s.heap β w)) (ys.take d) nn ∧ (min ys.length d = 0 ∨ ∃ b o, B = some ⟨b, o, none⟩ ∧ cellsAt w b o nn) := by
    intro d
    have hr := hrn
    rw [← List.take_append_drop d ys] at hr
    obtain ⟨m1, m2, rfl, r1, r2⟩ := rows.of_app hr
    have e1 := rows.len (fun x c => K.rd_len w _ q x c) r1
    refine ⟨m1, by rw [e1, List.length_take, Nat.min_comm], r1, ?_⟩
    rcases hcn with hz | ⟨b, o, hB, hc⟩
    · left; omega
    · exact .inr ⟨b, o, hB, hc.app.1⟩
  split at ee
  · rename_i l
    split at ee
    rotate_left
    · simp at ee
    rename_i T q' xs fr hob
    split at ee
    rotate_left
    · simp at ee
    rename_i hq
    subst hq
    obtain ⟨inf, hi, hs, ee⟩ := szOk_some ee
    obtain ⟨rr, A, dc, hr, hax, hdc, hsl⟩ := h.ev1 hx
    obtain ⟨f, b, hf, hb', g1, g2, g3, g4⟩ := h.obj hob (by simp)
    rw [hr] at hb'; cases hb'
    have hlt : (ys.take xs.length).length = min ys.length xs.length := by simp [Nat.min_comm]
    by_cases hz : min ys.length xs.length = 0
    · have hsame : ys.take xs.length ++ xs.drop ys.length = xs := by
        have h1 : ys.take xs.length = [] := List.eq_nil_of_length_eq_zero (by omega)
        rw [h1, List.nil_append]
        by_cases hy0 : ys.length = 0
        · rw [hy0]; rfl
        · have : xs = [] := List.eq_nil_of_length_eq_zero (by omega)
          rw [this]; simp
      have hrun := run0 A rr.n dc inf hax hi (by rw [g1]; exact hz)
      rw [g1] at hrun
      have hrel := weak_step h fr3 hf
      rw [← hsame] at hrel
      exact wpIn_value hF (by simp [ho]) hrun ⟨_, _, ee, hrel.put _ _ _ rfl, (Ext.upd _ s β _ _ (by rw [hf]; simp)).trans (Ext.put _ _ _ _)⟩
    · obtain ⟨nn, n1, n2, n3⟩ := take xs.length
      have hreal : rr.real = true ∧ A = rr.addr 0 := by
        rcases hsl with ⟨h1, h2, _⟩ | ⟨h1, _⟩
        · exact ⟨h1, by simpa using h2⟩
        · omega
      have hsame : xs.take 0 ++ ys.take xs.length ++ xs.drop (0 + (ys.take xs.length).length) = ys.take xs.length ++ xs.drop ys.length := by
        simp only [List.take_zero, List.nil_append, Nat.zero_add, hlt]
        congr 1
        by_cases hc : ys.length ≤ xs.length
        · rw [Nat.min_eq_left hc]
        · rw [Nat.min_eq_right (by omega), List.drop_eq_nil_of_le (by omega), List.drop_eq_nil_of_le (by omega)]
      obtain ⟨w', hst, hrel⟩ := over_step (P := P) h hf hr hreal.1 (off := 0) (ys := ys.take xs.length) (by rw [hlt]; omega) n2
      rw [hsame] at hrel
      have hrun := run rr.blk rr.base rr.n dc inf nn w' (by rw [hax, hreal.2]; simp [Bl.addr]) hi hs (by rw [g1]; exact n1) (by rw [g1]; exact n3) (by simpa using hst)
      rw [g1] at hrun
      exact wpIn_value hF (by simp [ho]) hrun ⟨_, _, ee, hrel.put _ _ _ rfl, (Ext.upd _ s β _ _ (by rw [hf]; simp)).trans (Ext.put _ _ _ _)⟩
  · rename_i l off len
    split at ee
    rotate_left
    · simp at ee
    rename_i T q' xs fr hob
    split at ee
    rotate_left
    · simp at ee
    rename_i hq
    subst hq
    obtain ⟨inf, hi, hs, ee⟩ := szOk_some ee
    obtain ⟨rr, A, dc, hr, hax, hdc, hoff, hsl⟩ := h.ev1 hx
    obtain ⟨f, b, hf, hb', g1, g2, g3, g4⟩ := h.obj hob (by simp)
    rw [hr] at hb'; cases hb'
    have hlt : (ys.take len).length = min ys.length len := by simp [Nat.min_comm]
    by_cases hz : min ys.length len = 0
    · have hsame : xs.take off ++ ys.take len ++ xs.drop (off + min ys.length len) = xs := by
        have h1 : ys.take len = [] := List.eq_nil_of_length_eq_zero (by omega)
        rw [h1, hz, List.append_nil, Nat.add_zero, List.take_append_drop]
      have hrun := run0 A len dc inf hax hi hz
      have hrel := weak_step h fr3 hf
      rw [← hsame] at hrel
      exact wpIn_value hF (by simp [ho]) hrun ⟨_, _, ee, hrel.put _ _ _ rfl, (Ext.upd _ s β _ _ (by rw [hf]; simp)).trans (Ext.put _ _ _ _)⟩
    · obtain ⟨nn, n1, n2, n3⟩ := take len
      have hreal : rr.real = true ∧ A = rr.addr (off * rr.sz) := by
        rcases hsl with ⟨h1, h2, _⟩ | ⟨h1, _⟩
        · exact ⟨h1, h2⟩
        · omega
      obtain ⟨w', hst, hrel⟩ := over_step (P := P) h hf hr hreal.1 (off := off) (ys := ys.take len) (by rw [hlt]; omega) n2
      rw [hlt] at hrel
      have hrun := run rr.blk (rr.base + off * q'.size) len dc inf nn w' (by rw [hax, hreal.2, g2]; simp [Bl.addr]) hi hs n1 n3 hst
      exact wpIn_value hF (by simp [ho]) hrun ⟨_, _, ee, hrel.put _ _ _ rfl, (Ext.upd _ s β _ _ (by rw [hf]; simp)).trans (Ext.put _ _ _ _)⟩
  · simp at ee

theorem step_sound (hF : FW F) {Γ : Env} (hΓ : Γ.Sound P) (h : Rel C s β a w) (ee : astep P Γ s o k = some r) :
    o.wpIn F n P a w (After C s β (fun i => o.dst = some i) k r) Q := by
  unfold astep at ee
  split at ee
  · rename_i t ho
    split at ee
    · exact alloc_step hF h ho ‹_› ee
    · simp at ee
  · rename_i t x ho
    split at ee
    · exact box_op_step hF h ho ‹_› ee
    · simp at ee
  · rename_i t x y ho
    exact make_step hF h ho ee
  · rename_i t m parts ho
    exact buildSlice_step hF h ho ee
  · rename_i t x y ho
    split at ee
    · exact store_step hF h ho ‹_› ee
    · simp at ee
  · rename_i t x i ok ho
    obtain ⟨tv, v, h1, h2, h3⟩ := alookup_sound h ho ee
    exact wpIn_value hF (by simp [ho]) h2 ⟨_, _, h1, h.put _ _ _ h3, Ext.put _ _ _ _⟩
  · rename_i x ho
    obtain ⟨tv, v, h1, h2, h3⟩ := aentry_sound h ho ee
    exact wpIn_value hF (by simp [ho]) h2 ⟨_, _, h1, h.put _ _ _ h3, Ext.put _ _ _ _⟩
  · rename_i t x ho
    exact range_step hF h ho ee
  · rename_i t ho
    exact makeMap_step hF h ho ee
  · rename_i t m i x ho
    exact mapUpdate_step hF h ho ee
  · rename_i c ho
    split at ee
    · exact append_step hF h ho ‹_› ee
    · exact copy_step hF h ho ‹_› ee
    · exact delete_step hF h ho ‹_› ee
    · exact value_step hF h (by simp [ho]) ee
    · rename_i f hc
      split at ee
      · rename_i hfv
        split at ee
        · exact call_step hF h hΓ ho hc hfv ee
        · rename_i d hd
          split at ee
          · exact callH_step hF h ho hc hfv (hΓ.hd _ d hd) ee
          · simp at ee
      · simp at ee
    · simp at ee
  · rename_i h1 h2 h3 h4 h5 h6 h7 h8 h9 h10 h11
    refine value_step hF h (fun c hc => ?_) ee
    rw [aval, hc] at ee
    simp at ee
end
end Go.Proofs.AM
