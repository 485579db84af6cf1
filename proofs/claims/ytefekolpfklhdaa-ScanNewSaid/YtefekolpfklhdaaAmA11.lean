/- Appends. -/
import Derived.Test.YtefekolpfklhdaaAmA10
set_option maxRecDepth 2000
set_option linter.unusedVariables false
set_option linter.unusedSimpArgs false
namespace Go.Proofs.AM
open Go Go.RowKit

theorem Rel.move {C : Cx} {s : AS} {β : List Bl} {a : Act} {w w' : World} (h : Rel C s β a w) (l : Option Nat) (hl : ∀ m, l = some m → ∃ f T q xs fr, s.heap[m]? = some (f, .vec T q xs fr)) (o : AObj) (r : Bl)
    (hos : w'.os = w.os) (htape : w'.tape = w.tape) (hout : w'.output = w.output) (hsz : w.heap.size ≤ w'.heap.size)
    (hblk : ∀ b, b < w.heap.size → (∀ (m : Nat) (o0 : Bool × AObj) (rr : Bl), l = some m → s.heap[m]? = some o0 → β[m]? = some rr → b ∉ o0.2.occ rr) → w'.heap[b]? = w.heap[b]?)
    (hocc : ∀ b, b ∈ o.occ r → b < w'.heap.size ∧ (w.heap.size ≤ b ∨ ∃ (m : Nat) (o0 : Bool × AObj) (rr : Bl), l = some m ∧ s.heap[m]? = some o0 ∧ β[m]? = some rr ∧ b ∈ o0.2.occ rr))
    (hR : (∀ b, C.N s.heap β w b → C.N ((s.kill l).push o).heap (β ++ [r]) w' b) → (∀ b, C.fresh s.heap β w b → C.fresh ((s.kill l).push o).heap (β ++ [r]) w' b) → (∀ b, C.N s.heap β w b → w'.heap[b]? = w.heap[b]?) →
      o.R w' (C.N ((s.kill l).push o).heap (β ++ [r]) w') (C.fresh ((s.kill l).push o).heap (β ++ [r]) w') (β ++ [r]) r) :
    Rel C ((s.kill l).push o) (β ++ [r]) a w' := by
  have hmem : ∀ m, l = some m → m < s.heap.length := fun m e => by
    obtain ⟨f, T, q, xs, fr, hm⟩ := hl m e
    exact (List.getElem?_eq_some_iff.1 hm).1
  have hh : ((s.kill l).push o).heap = (s.kill l).heap ++ [(true, o)] := rfl
  have hkl : (s.kill l).heap.length = s.heap.length := by cases l <;> simp [AS.kill, AS.upd]
  have hkne : ∀ m, l ≠ some m → (s.kill l).heap[m]? = s.heap[m]? := fun m hm => by
    cases l with
    | none => rfl
    | some x => simp only [AS.kill, AS.upd]; rw [List.getElem?_set_ne (fun e => hm (by rw [e]))]
  have hke : ∀ m, l = some m → (s.kill l).heap[m]? = some (true, .dead) := fun m hm => by
    subst hm; simp [AS.kill, AS.upd, hmem m rfl]
  have hnew : ∀ (m : Nat) (o1 : Bool × AObj) (r1 : Bl), ((s.kill l).push o).heap[m]? = some o1 → (β ++ [r])[m]? = some r1 → (l = some m ∨ s.heap.length ≤ m) →
      (l = some m ∧ o1 = (true, .dead)) ∨ (m = s.heap.length ∧ o1 = (true, o) ∧ r1 = r) := by
    intro m o1 r1 h1 h2 h3
    rw [hh] at h1
    by_cases hm : m < s.heap.length
    · have h4 := h3.resolve_right (by omega)
      rw [List.getElem?_append_left (by omega), hke m h4] at h1
      exact .inl ⟨h4, by simpa using h1.symm⟩
    · right
      have : m = s.heap.length := by have := (List.getElem?_eq_some_iff.1 h1).1; simp at this; omega
      subst this
      refine ⟨rfl, by rw [List.getElem?_append_right (by omega), hkl] at h1; simpa using h1.symm, ?_⟩
      rw [← h.bsize] at h2; simpa using h2.symm
  have := h.gen ((s.kill l).push o).heap [r] w' (fun m => l = some m) hos htape hout hsz (by rw [hh]; simp [hkl])
    (fun m o1 h1 hn => ⟨o1, by rw [hh, List.getElem?_append_left (by rw [hkl]; exact (List.getElem?_eq_some_iff.1 h1).1), hkne m hn]; exact h1, rfl⟩)
    (fun m _ h1 => by
      have hn : l ≠ some m := fun e => by
        obtain ⟨f, T, q, xs, fr, hm⟩ := hl m e
        rw [h1] at hm; simp at hm
      rw [hh, List.getElem?_append_left (by rw [hkl]; exact (List.getElem?_eq_some_iff.1 h1).1), hkne m hn]; exact h1)
    (fun b hb hx => hblk b hb (fun m o0 rr e1 e2 e3 => hx m o0 rr e2 e3 e1))
    (fun m o1 r1 b h1 h2 h3 hx => by
      rcases hnew m o1 r1 h1 h2 h3 with ⟨_, rfl⟩ | ⟨rfl, rfl, rfl⟩
      · simp [AObj.occ] at hx
      · obtain ⟨g1, g2⟩ := hocc b hx
        refine ⟨g1, g2.imp id ?_⟩
        rintro ⟨m, o0, rr, e1, e2, e3, e4⟩
        exact ⟨m, o0, rr, e2, e3, e1, e4⟩)
    (fun m m' o1 o2 r1 r2 b h1 h2 h1' h2' h3 h3' hx hx' => by
      rcases hnew m o1 r1 h1 h2 h3 with ⟨_, rfl⟩ | ⟨rfl, rfl, rfl⟩
      · simp [AObj.occ] at hx
      · rcases hnew m' o2 r2 h1' h2' h3' with ⟨_, rfl⟩ | ⟨rfl, rfl, rfl⟩
        · simp [AObj.occ] at hx'
        · rfl)
    (fun m o1 r1 h1 h2 h3 k1 k2 k3 k4 => by
      rcases hnew m o1 r1 h1 h2 h3 with ⟨_, rfl⟩ | ⟨rfl, rfl, rfl⟩
      · trivial
      · exact hR k2 k3 k4)
  have he : { s with heap := ((s.kill l).push o).heap } = (s.kill l).push o := by cases l <;> rfl
  rw [he] at this
  exact this.1

theorem Ext.kill (d : Nat → Prop) (s : AS) (β : List Bl) (l : Option Nat) (hl : ∀ m, l = some m → ∃ f T q xs fr, s.heap[m]? = some (f, .vec T q xs fr)) : Ext d s (s.kill l) β β := by
  cases l with
  | none => exact Ext.refl _ _ _
  | some m =>
    obtain ⟨f, T, q, xs, fr, e⟩ := hl m rfl
    exact Ext.upd _ _ _ _ _ (by rw [e]; simp)

section
variable {P : Program} {C : Cx} {s : AS} {β : List Bl} {a : Act} {w : World} {R : Type} {k : AS → Option R} {r : R} {F : Fence} {n : Nat} {Q : Exit → Act → World → Prop} {o : Oper}

/-- What a slice that may be appended to holds, and where. -/
theorem own_cells (h : Rel C s β a w) {x : AV} {v : Value} (hx : x.R w (C.N s.heap β w) (C.fresh s.heap β w) β v) {e : TypeId} {q : K} {xs : List q.den} {fr : Bool} {l : Option Nat} (eo : aowned s.heap e q x = some (xs, fr, l)) :
    ∃ A c olds, v = .slice A xs.length c ∧ xs.length ≤ c ∧ rows (q.rd w (if fr then C.fresh s.heap β w else C.N s.heap β w)) xs olds ∧ (xs.length = 0 ∨ ∃ b o, A = some ⟨b, o, none⟩ ∧ cellsAt w b o olds) ∧
      (∀ m, l = some m → ∃ f T q xs fr, s.heap[m]? = some (f, .vec T q xs fr)) ∧
      (c = 0 ∨ ∃ m rr f ob pre post cap, l = some m ∧ s.heap[m]? = some (f, ob) ∧ β[m]? = some rr ∧ rr.blk ∈ ob.occ rr ∧ A = some ⟨rr.blk, pre.length, none⟩ ∧
        w.heap[rr.blk]? = some (.cells (pre ++ olds ++ post).toArray e (0, 0)) ∧ olds.length + post.length = cap * q.size ∧ c ≤ cap) := by
  unfold aowned at eo
  split at eo
  · simp only [Option.some.injEq, Prod.mk.injEq] at eo
    obtain ⟨rfl, rfl, rfl⟩ := eo
    have hx : v = _ := hx
    exact ⟨none, 0, [], hx, Nat.le_refl _, rfl, .inl rfl, by simp, .inl rfl⟩
  · rename_i m
    split at eo
    rotate_left
    · simp at eo
    rename_i T q' xs' fr' ho
    split at eo
    rotate_left
    · simp at eo
    rename_i hT
    subst hT
    split at eo
    rotate_left
    · simp at eo
    rename_i hq
    subst hq
    simp only [Option.some.injEq, Prod.mk.injEq] at eo
    obtain ⟨rfl, rfl, rfl⟩ := eo
    obtain ⟨rr, A, c, hr, rfl, hc, hsl⟩ := hx
    obtain ⟨f, b, hf, hb, g1, g2, g3, g4⟩ := h.obj ho (by simp)
    rw [hr] at hb; cases hb
    rcases hsl with ⟨hreal, rfl, hcap⟩ | ⟨hz, hc0⟩
    · simp only [hreal, if_true] at g4
      obtain ⟨pre, mid, post, hh, hp, hrow, hlen⟩ := g4
      have hcell : cellsAt w rr.blk rr.base mid := by rw [← hp]; exact cellsAt_block hh
      refine ⟨_, c, mid, by rw [g1], by omega, hrow, .inr ⟨rr.blk, rr.base, by simp [Bl.addr], hcell⟩, fun m' e' => by cases e'; exact ⟨f, _, _, _, _, hf⟩, .inr ⟨m, rr, f, _, pre, post, rr.cap, rfl, hf, hr, by simp [AObj.occ, hreal], by simp [Bl.addr, hp], hh, by rw [hlen, g2], by omega⟩⟩
    · have : xs'.length = 0 := by omega
      have : xs' = [] := List.eq_nil_of_length_eq_zero this
      subst this
      exact ⟨A, c, [], by rw [g1], by omega, rfl, .inl rfl, fun m' e' => by cases e'; exact ⟨f, _, _, _, _, hf⟩, .inl hc0⟩
  · rename_i m off len
    split at eo
    rotate_left
    · simp at eo
    rename_i T q' xs' fr' ho
    split at eo
    rotate_left
    · simp at eo
    rename_i hT
    subst hT
    split at eo
    rotate_left
    · simp at eo
    rename_i hq
    subst hq
    split at eo
    rotate_left
    · simp at eo
    rename_i hlen'
    simp only [Option.some.injEq, Prod.mk.injEq] at eo
    obtain ⟨rfl, rfl, rfl⟩ := eo
    obtain ⟨rr, A, c, hr, rfl, hc, hoff, hsl⟩ := hx
    obtain ⟨f, b, hf, hb, g1, g2, g3, g4⟩ := h.obj ho (by simp)
    rw [hr] at hb; cases hb
    have hdl : (xs'.drop off).length = len := by simp; omega
    rcases hsl with ⟨hreal, rfl, hcap⟩ | ⟨hz, hc0⟩
    · simp only [hreal, if_true] at g4
      obtain ⟨pre, mid, post, hh, hp, hrow, hcl⟩ := g4
      have hrow' := hrow
      rw [← List.take_append_drop off xs'] at hrow'
      obtain ⟨m1, m2, rfl, r1, r2⟩ := rows.of_app hrow'
      have e1 := rows.len (fun x c => K.rd_len w _ q' x c) r1
      have e1' : m1.length = off * q'.size := by rw [e1]; congr 1; simp; omega
      have hcell : cellsAt w rr.blk rr.base (m1 ++ m2) := by rw [← hp]; exact cellsAt_block hh
      refine ⟨_, c, m2, by rw [hdl], by rw [hdl]; omega, r2, .inr ⟨rr.blk, rr.base + off * rr.sz, by simp [Bl.addr], by rw [g2, ← e1']; exact hcell.app.2⟩, fun m' e' => by cases e'; exact ⟨f, _, _, _, _, hf⟩,
        .inr ⟨m, rr, f, _, pre ++ m1, post, rr.cap - off, rfl, hf, hr, by simp [AObj.occ, hreal], by simp [Bl.addr, hp, e1', g2], by rw [hh]; simp, ?_, by omega⟩⟩
      have h5 := rows.len (fun x c => K.rd_len w _ q' x c) r2
      rw [hdl] at h5
      simp only [List.length_append, e1', g2] at hcl
      rw [Nat.sub_mul]; omega
    · have hl0 : len = 0 := hz
      have : (xs'.drop off) = [] := List.eq_nil_of_length_eq_zero (by omega)
      refine ⟨A, c, [], by rw [hdl], by rw [hdl]; omega, by rw [this]; rfl, .inl (by rw [hdl]; exact hl0), fun m' e' => by cases e'; exact ⟨f, _, _, _, _, hf⟩, .inl hc0⟩
  · simp at eo

theorem constTV_len (z : Value) : (constTV z).cells.length = z.cells.size := by
  unfold constTV
  split
  · simp [TV.cells, Value.cells]
  · rename_i hne
    have hvc : z.cells = #[z] := by
      unfold Value.cells
      split
      · exact absurd rfl (hne _)
      · rfl
    rw [hvc]; rfl

theorem azero_some {e : TypeId} {z : List AV} (h : azero P e = some z) : ∃ i zv, P.info? e = some i ∧ i.zero = some zv ∧ z = (constTV zv).cells := by
  unfold azero at h
  split at h
  · rename_i i hi
    split at h
    · rename_i zv hz
      simp only [Option.some.injEq] at h
      exact ⟨i, zv, hi, hz, h.symm⟩
    · simp at h
  · simp at h

theorem run_append_gen {t ty e : TypeId} {i : TypeInfo} {z : Value} (ht : P.underlying t = some (.slice e)) (hi : P.info? e = some i) (hz : i.zero = some z) {A B : Option Addr} {n c m c2 : Nat} {olds news : List Value}
    (ho : (Builtin.firstCells i.size n (.slice A n c)).run P w.drew = .ok olds.toArray w.drew) (hn : (Builtin.firstCells i.size m (.slice B m c2)).run P w.drew = .ok news.toArray w.drew)
    (hg : c < n + m) (h63 : ((n + m : Nat) : Int) ≤ 9223372036854775807) (hfit : Builtin.nextslicecap (n + m) c * i.bytes ≤ 281474976710656) :
    (Builtin.append_ #[t, t] ty #[.slice A n c, .slice B m c2]).run P w =
      .ok (.slice (some ⟨w.heap.size, 0, none⟩) (n + m) (grownCap w (n + m) c e)) (w.drew.alloc (.cells (olds.toArray ++ news.toArray ++ Builtin.zeroCells z.cells (grownCap w (n + m) c e - (n + m))) e)) := by
  have hn' : ¬ (n + m ≤ c) := by omega
  have h63' : ¬ (9223372036854775807 < ((n : Int) + (m : Int))) := by omega
  have h48' : ¬ (281474976710656 < Builtin.nextslicecap (n + m) c * i.bytes) := by omega
  simp [Builtin.append_, run_underlying ht, sizeOf, typeInfo, zeroValue, hi, hz, Builtin.lenOf, hn', h63', h48', Question.forced, ho, hn, newRow, grownCap]
  congr 2
  apply Array.ext'
  simp [List.append_assoc]

theorem run_append_in {t ty e : TypeId} {i : TypeInfo} (ht : P.underlying t = some (.slice e)) (hi : P.info? e = some i) {A B : Option Addr} {n c m c2 : Nat} {news : List Value} {w' : World}
    (hn : (Builtin.firstCells i.size m (.slice B m c2)).run P w = .ok news.toArray w) (hg : n + m ≤ c)
    (hs : ∀ b o, A = some ⟨b, o, none⟩ → (storeCells ⟨b, o + n * i.size, none⟩ news).run P w = .ok () w') (hA : (A = none ∧ w' = w) ∨ ∃ b o, A = some ⟨b, o, none⟩) :
    (Builtin.append_ #[t, t] ty #[.slice A n c, .slice B m c2]).run P w = .ok (.slice A (n + m) c) w' := by
  rcases hA with ⟨rfl, rfl⟩ | ⟨b, o, rfl⟩
  · simp [Builtin.append_, run_underlying ht, sizeOf, typeInfo, hi, Builtin.lenOf, hg, hn]
  · have := hs b o rfl
    simp [Builtin.append_, run_underlying ht, sizeOf, typeInfo, hi, Builtin.lenOf, hg, hn, addr_add, this]
end
end Go.Proofs.AM
