/- Operations that only make a value. -/
import Derived.Test.YtefekolpfklhdaaAmA4
set_option maxRecDepth 2000
set_option linter.unusedVariables false
set_option linter.unusedSimpArgs false
namespace Go.Proofs.AM
open Go Go.RowKit

/-- A value that an operation makes, and what it reads as. -/
def Makes (P : Program) (C : Cx) (s : AS) (β : List Bl) (w : World) {R : Type} (x : Sem Value) (k : TV → Option R) (r : R) : Prop :=
  ∃ tv v, k tv = some r ∧ x.run P w = .ok v w ∧ tv.R w (C.N s.heap β w) (C.fresh s.heap β w) β v

section
variable {P : Program} {C : Cx} {s : AS} {β : List Bl} {a : Act} {w : World} {R : Type} {k : TV → Option R} {r : R}

theorem vec_cells (h : Rel C s β a w) {l : Nat} {T : TypeId} {q : K} {xs : List q.den} {fr : Bool} (e : hat s.heap l = .vec T q xs fr) (hx : 0 < xs.length) :
    ∃ f b mid, s.heap[l]? = some (f, .vec T q xs fr) ∧ β[l]? = some b ∧ b.real = true ∧ b.n = xs.length ∧ b.sz = q.size ∧ b.n ≤ b.cap ∧ cellsAt w b.blk b.base mid ∧
      rows (q.rd w (if fr then C.fresh s.heap β w else C.N s.heap β w)) xs mid := by
  obtain ⟨f, b, hf, hb, h1, h2, h3, h4⟩ := h.obj e (by simp)
  by_cases hr : b.real = true
  · simp only [hr, if_true] at h4
    obtain ⟨pre, mid, post, hh, hp, hm, _⟩ := h4
    refine ⟨f, b, mid, hf, hb, hr, h1, h2, h3, ?_, hm⟩
    rw [← hp]; exact cellsAt_block hh
  · simp only [hr] at h4
    have h4 : b.n = 0 := h4
    omega

theorem aload_sound (h : Rel C s β a w) {t : TypeId} {x : AV} {v : Value} (hx : x.R w (C.N s.heap β w) (C.fresh s.heap β w) β v) (e : aload P s.heap t x k = some r) :
    Makes P C s β w (Instr.loadAt t v) k r := by
  unfold aload at e
  split at e
  · rename_i l off
    split at e
    · rename_i T cs ho
      obtain ⟨rr, hr, rfl⟩ := hx
      obtain ⟨f, b, hf, hb, vs, hh, hz, hc⟩ := h.obj ho (by simp)
      rw [hr] at hb; cases hb
      have hcell : cellsAt w rr.blk rr.base vs := by
        rw [hz]; exact cellsAt_block (pre := []) (post := []) (by simpa using hh)
      exact cut_load e hc hcell
    · simp at e
  · rename_i q x off fr
    obtain ⟨b, o, es, rfl, _, hc, hr⟩ := hx
    exact cut_load e (K.cells_R fr q x es hr) hc
  · rename_i q x fr
    obtain ⟨b, o, es, ev, _, hc, hr⟩ := hx
    simp only [List.cons.injEq, and_true] at ev; subst ev
    exact cut_load e (K.cells_R fr q x es hr) hc
  · rename_i l i off
    split at e
    · rename_i T q xs fr ho
      obtain ⟨hi, e⟩ := gd_some e
      obtain ⟨rr, hr, rfl⟩ := hx
      obtain ⟨f, b, mid, hf, hb, _, _, hsz, _, hc, hrow⟩ := vec_cells h ho (by omega)
      rw [hr] at hb; cases hb
      have hg := rows.get (fun x c => K.rd_len w _ q x c) hrow i (xs.getD i q.dflt) (by simp [List.getElem?_eq_getElem hi])
      have hc2 := (hc.drop (i * q.size)).take q.size
      have := cut_load e (K.cells_R (N := C.N s.heap β w) (Nf := C.fresh s.heap β w) (β := β) fr q _ _ hg) hc2
      rw [hsz]; rwa [Nat.add_assoc] at this
    · simp at e
  · simp at e

theorem abin_sound {op : BinOp} {t : TypeId} {kx ky : IntKind} {m n : Int} {x y : Operand} (e : abin op kx m ky n k = some r) :
    Makes P C s β w (do eqGuard op t x y (.int kx m) (.int ky n); binOp op t (.int kx m) (.int ky n)) k r := by
  have hg : (eqGuard op t x y (.int kx m) (.int ky n)).run P w = .ok () w := by
    unfold eqGuard
    cases op <;> simp
  suffices hs : Makes P C s β w (binOp op t (.int kx m) (.int ky n)) k r by
    obtain ⟨tv, v, h1, h2, h3⟩ := hs
    exact ⟨tv, v, h1, by simp only [Sem.run_bind, hg, Result.andThen_ok, h2], h3⟩
  unfold abin at e
  split at e
  · obtain ⟨hn, e⟩ := gd_some e
    refine ⟨_, _, e, ?_, rfl⟩
    simp [binOp, Op.shift, Int.not_lt.2 hn, ishl]
  · obtain ⟨hn, e⟩ := gd_some e
    refine ⟨_, _, e, ?_, rfl⟩
    simp [binOp, Op.shift, Int.not_lt.2 hn, ishr]
  · split at e
    · rename_i hk
      subst hk
      cases op <;> first | (exact absurd rfl ‹_ = BinOp.shl → False›) | (exact absurd rfl ‹_ = BinOp.shr → False›) | skip
      all_goals first
        | (simp at e; done)
        | (refine ⟨_, _, e, ?_, rfl⟩; simp [binOp, Op.intArith, Op.intBits, Op.intCmp, iand, ior, ixor, iandn]; done)
        | skip
      all_goals
        dsimp only at e
        split at e
        · simp at e
        · rename_i hz
          refine ⟨_, _, e, ?_, rfl⟩
          simp [binOp, Op.intDiv, hz]
    · simp at e

theorem alen_sound (h : Rel C s β a w) {x : AV} {v : Value} (hx : x.R w (C.N s.heap β w) (C.fresh s.heap β w) β v) {n : Int} (e : alen s.heap x = some n) :
    ∃ A len cap, v = .slice A len cap ∧ n = (len : Int) ∧ len ≤ cap := by
  unfold alen at e
  split at e
  · simp at e; subst e
    obtain ⟨A, c, ev, hl, _⟩ := hx
    simp only [List.cons.injEq, and_true] at ev
    exact ⟨A, _, c, ev, rfl, hl⟩
  · simp at e; subst e
    exact ⟨none, 0, 0, hx, rfl, Nat.le_refl _⟩
  · rename_i l
    split at e
    · rename_i T q xs fr ho
      simp at e; subst e
      obtain ⟨rr, A, c, hr, rfl, hc, _⟩ := hx
      obtain ⟨f, b, hf, hb, h1, _⟩ := h.obj ho (by simp)
      rw [hr] at hb; cases hb
      exact ⟨A, _, c, rfl, by rw [h1], hc⟩
    · simp at e
  · simp at e; subst e
    obtain ⟨rr, A, c, hr, rfl, hc, _⟩ := hx
    exact ⟨A, _, c, rfl, rfl, hc⟩
  · simp at e

theorem afields_some {t : TypeId} {i : Nat} {f : Field} (e : afields P t i = some f) : ∃ fs, P.underlying t = some (.struct fs) ∧ fs[i]? = some f := by
  unfold afields at e; split at e
  · rename_i fs hfs; exact ⟨fs, hfs, e⟩
  · simp at e

theorem aelem_some {t e : TypeId} (h : aelem P t = some e) : P.underlying t = some (.slice e) := by
  unfold aelem at h; split at h
  · rename_i x hx; simp at h; rw [hx, h]
  · simp at h

theorem run_underlying' {t : TypeId} {d : TypeDesc} (h : P.underlying t = some d) (w : World) : (underlying t).run P w = .ok d w := by
  unfold underlying
  simp only [Sem.run_bind, run_program, Result.andThen_ok, h, Sem.run_pure]

theorem cellsOf_ne {t : TypeId} (h : P.cellsOf t ≠ 0) : ∃ i, P.info? t = some i ∧ i.size = P.cellsOf t := by
  unfold Program.cellsOf at h ⊢
  cases hi : P.info? t with
  | none => simp [hi] at h
  | some i => exact ⟨i, rfl, by simp⟩

theorem run_fieldAt {t : TypeId} {fs : Array Field} {i : Nat} {f : Field} (hu : P.underlying t = some (.struct fs)) (hf : fs[i]? = some f) (hz : P.cellsOf f.type ≠ 0) (b o : Nat) :
    (Instr.fieldAt t (.pointer (some ⟨b, o, none⟩)) i).run P w = .ok (.pointer (some ⟨b, o + f.offset, none⟩)) w := by
  obtain ⟨inf, hi, hsz⟩ := cellsOf_ne hz
  unfold Instr.fieldAt
  simp only [Sem.run_bind, run_underlying' hu, Result.andThen_ok, hf, Instr.sureAddr, Sem.run_pure, fieldPlace, run_sizeOf hi]
  rw [if_neg (by omega)]
  simp only [Sem.run_pure, Result.andThen_ok, addr_add]

theorem afieldAddr_sound {t : TypeId} {i : Nat} {f : Field} (ef : afields P t i = some f) {x : AV} {v : Value} (hx : x.R w (C.N s.heap β w) (C.fresh s.heap β w) β v)
    (e : afieldAddr P f x k = some r) : Makes P C s β w (Instr.fieldAt t v i) k r := by
  obtain ⟨fs, hu, hf⟩ := afields_some ef
  unfold afieldAddr at e
  split at e
  · simp at e
  rename_i hz
  split at e
  · obtain ⟨rr, hr, rfl⟩ := hx
    refine ⟨_, _, e, run_fieldAt hu hf hz _ _, rr, hr, ?_⟩
    simp [Bl.addr, Nat.add_assoc]
  · obtain ⟨b, o, es, rfl, h1, h2, h3⟩ := hx
    refine ⟨_, _, e, run_fieldAt hu hf hz _ _, b, o, es, ?_, h1, h2, h3⟩
    rw [Nat.add_assoc]
  · obtain ⟨b, o, es, ev, h1, h2, h3⟩ := hx
    simp only [List.cons.injEq, and_true] at ev; subst ev
    exact ⟨_, _, e, run_fieldAt hu hf hz _ _, b, o, es, rfl, h1, h2, h3⟩
  · obtain ⟨rr, hr, rfl⟩ := hx
    refine ⟨_, _, e, run_fieldAt hu hf hz _ _, rr, hr, ?_⟩
    simp [Bl.addr, Nat.add_assoc]
  · simp at e

theorem run_indexAt {t et : TypeId} (hu : P.underlying t = some (.slice et)) {inf : TypeInfo} (hi : P.info? et = some inf) {b o len cap : Nat} {q : IntKind} {i : Int} (h0 : 0 ≤ i) (h1 : i < (len : Int)) :
    (Instr.indexAt t (.slice (some ⟨b, o, none⟩) len cap) (.int q i)).run P w = .ok (.pointer (some ⟨b, o + i.toNat * inf.size, none⟩)) w := by
  unfold Instr.indexAt
  simp only [Sem.run_bind, asIntOf, Sem.run_pure, Result.andThen_ok, run_underlying' hu]
  simp only [h0, h1, and_self, if_true, Sem.run_bind, run_sizeOf hi, Result.andThen_ok, addr_add, Sem.run_pure]

theorem szOk_some {et : TypeId} {n : Nat} {x : Option R} (e : szOk P et n x = some r) : ∃ inf, P.info? et = some inf ∧ inf.size = n ∧ x = some r := by
  unfold szOk at e
  split at e
  · rename_i inf hi
    split at e
    · exact ⟨inf, hi, ‹_›, e⟩
    · simp at e
  · simp at e

theorem aindexAddr_sound (h : Rel C s β a w) {t et : TypeId} (eu : aelem P t = some et) {x : AV} {v : Value} (hx : x.R w (C.N s.heap β w) (C.fresh s.heap β w) β v) {q : IntKind} {i : Int}
    (e : aindexAddr P s.heap et x i k = some r) : Makes P C s β w (Instr.indexAt t v (.int q i)) k r := by
  have hu := aelem_some eu
  unfold aindexAddr at e
  split at e
  · rename_i q' xs fr
    obtain ⟨inf, hi, hs, e⟩ := szOk_some e
    obtain ⟨h0, e⟩ := gd_some e
    obtain ⟨h1, e⟩ := gd_some e
    obtain ⟨A, c, ev, hl, hcase⟩ := hx
    simp only [List.cons.injEq, and_true] at ev; subst ev
    rcases hcase with hz | ⟨b, off, es, rfl, hN, hc, hrow⟩
    · omega
    have hg := rows.get (fun x c => K.rd_len w _ q' x c) hrow i.toNat (List.getD xs i.toNat q'.dflt) (by
      rw [List.getD_eq_getElem?_getD, List.getElem?_eq_getElem (by omega)]; rfl)
    refine ⟨_, _, e, run_indexAt hu hi h0 h1, b, off + i.toNat * inf.size, _, rfl, hN, ?_, hg⟩
    rw [hs]; exact (hc.drop _).take _
  · rename_i l
    split at e
    · rename_i T q' xs fr ho
      obtain ⟨inf, hi, hs, e⟩ := szOk_some e
      obtain ⟨h0, e⟩ := gd_some e
      obtain ⟨h1, e⟩ := gd_some e
      obtain ⟨rr, A, c, hr, rfl, hc, hsl⟩ := hx
      obtain ⟨f, b, hf, hb, hn, hz, _⟩ := h.obj ho (by simp)
      rw [hr] at hb; cases hb
      rcases hsl with ⟨hreal, rfl, _⟩ | ⟨hz, _⟩
      · refine ⟨_, _, e, ?_, rr, hr, rfl⟩
        simp only [Bl.addr, Nat.zero_mul, Nat.add_zero]
        rw [run_indexAt hu hi h0 (by omega), hs, hz]
      · omega
    · simp at e
  · rename_i l off len
    split at e
    · rename_i T q' xs fr ho
      obtain ⟨inf, hi, hs, e⟩ := szOk_some e
      obtain ⟨h0, e⟩ := gd_some e
      obtain ⟨h1, e⟩ := gd_some e
      obtain ⟨rr, A, c, hr, rfl, hc, _, hsl⟩ := hx
      obtain ⟨f, b, hf, hb, hn, hz, _⟩ := h.obj ho (by simp)
      rw [hr] at hb; cases hb
      rcases hsl with ⟨hreal, rfl, _⟩ | ⟨hz, _⟩
      · refine ⟨_, _, e, ?_, rr, hr, rfl⟩
        simp only [Bl.addr]
        rw [run_indexAt hu hi h0 h1, hs, hz, Nat.add_mul]
        simp [Nat.add_assoc]
      · omega
    · simp at e
  · simp at e

/-- A slice's bounds, as the machine reckons them. -/
theorem run_sliceBounds {n cap : Nat} {lo hi : Option Value} {l h : Int} (hl : lo = none ∧ l = 0 ∨ ∃ q, lo = some (.int q l)) (hh : hi = none ∧ h = n ∨ ∃ q, hi = some (.int q h))
    (h0 : 0 ≤ l) (h1 : l ≤ h) (h2 : h ≤ (n : Int)) (hc : n ≤ cap) : (Instr.sliceBounds true n cap lo hi none).run P w = .ok (l.toNat, h.toNat, cap) w := by
  unfold Instr.sliceBounds
  have e1 : ∀ q code, (Instr.sliceBound (.int q h) cap code).run P w = .ok h.toNat w := fun q code => by
    unfold Instr.sliceBound
    simp only [Sem.run_bind, asIntOf, Sem.run_pure, Result.andThen_ok]
    rw [if_pos ⟨by omega, by omega⟩]; rfl
  have e2 : ∀ q code, (Instr.sliceBound (.int q l) h.toNat code).run P w = .ok l.toNat w := fun q code => by
    unfold Instr.sliceBound
    simp only [Sem.run_bind, asIntOf, Sem.run_pure, Result.andThen_ok]
    rw [if_pos ⟨by omega, by omega⟩]; rfl
  rcases hl with ⟨rfl, rfl⟩ | ⟨q, rfl⟩ <;> rcases hh with ⟨rfl, rfl⟩ | ⟨q', rfl⟩ <;> simp [Sem.run_bind, e1, e2]
  have := e2 q .sliceB
  simp at this
  simp [this]

theorem run_slice {t et : TypeId} (hu : P.underlying t = some (.slice et)) {inf : TypeInfo} (hinf : P.info? et = some inf) {A : Option Addr} {n cap : Nat} {lo hi : Option Value} {l h : Int}
    (hl : lo = none ∧ l = 0 ∨ ∃ q, lo = some (.int q l)) (hh : hi = none ∧ h = n ∨ ∃ q, hi = some (.int q h))
    (h0 : 0 ≤ l) (h1 : l ≤ h) (h2 : h ≤ (n : Int)) (hc : n ≤ cap) :
    (Instr.sliceAt t (.slice A n cap) lo hi none).run P w = .ok (.slice (if cap = l.toNat then A else A.map (·.add (l.toNat * inf.size))) (h.toNat - l.toNat) (cap - l.toNat)) w := by
  unfold Instr.sliceAt Instr.slice
  simp only [Sem.run_bind, run_underlying' hu, Result.andThen_ok, run_sliceBounds hl hh h0 h1 h2 hc, run_sizeOf hinf, Sem.run_pure]

theorem aslice_sound (h : Rel C s β a w) {t et : TypeId} (eu : aelem P t = some et) {inf : TypeInfo} (hinf : P.info? et = some inf) {x : AV} {v : Value} (hx : x.R w (C.N s.heap β w) (C.fresh s.heap β w) β v)
    {n l u : Int} (en : alen s.heap x = some n) {lo hi : Option Value} (hl : lo = none ∧ l = 0 ∨ ∃ q, lo = some (.int q l)) (hh : hi = none ∧ u = n ∨ ∃ q, hi = some (.int q u))
    (hsz : ∀ q xs fr, x = .dat (.sl q) xs fr → inf.size = q.size) (hsz' : ∀ m, (x = .vf m ∨ ∃ o k, x = .vw m o k) → ∀ b, β[m]? = some b → inf.size = b.sz)
    (e : aslice s.heap x l u n k = some r) : Makes P C s β w (Instr.sliceAt t v lo hi none) k r := by
  obtain ⟨A, len, cap, rfl, rfl, hcap⟩ := alen_sound h hx en
  unfold aslice at e
  obtain ⟨h0, e1⟩ := gd_some e; clear e
  obtain ⟨h1, e2⟩ := gd_some e1; clear e1
  obtain ⟨h2, e⟩ := gd_some e2; clear e2
  have hrun := run_slice (P := P) (w := w) (aelem_some eu) hinf (A := A) hl hh h0 h1 h2 hcap
  split at e
  · rename_i q xs fr
    refine ⟨_, _, e, hrun, ?_⟩
    obtain ⟨A', c', ev, hle, hcase⟩ := hx
    simp only [List.cons.injEq, and_true, Value.slice.injEq] at ev
    obtain ⟨rfl, hlen, rfl⟩ := ev
    have hs := hsz q xs fr rfl
    have hl' : (List.take (u.toNat - l.toNat) (List.drop l.toNat xs)).length = u.toNat - l.toNat := by simp; omega
    refine ⟨_, _, by rw [hl'], by rw [hl']; omega, ?_⟩
    rcases hcase with hz | ⟨b, off, es, rfl, hN, hc, hrow⟩
    · left; rw [hl']; omega
    · by_cases hcl : u.toNat - l.toNat = 0
      · left; rw [hl']; exact hcl
      right
      rw [if_neg (by omega)]
      refine ⟨b, off + l.toNat * inf.size, (es.drop (l.toNat * q.size)).take ((u.toNat - l.toNat) * q.size), by simp [addr_add], hN, ?_, ?_⟩
      · rw [hs]; exact (hc.drop _).take _
      · have hsplit : xs = List.take l.toNat xs ++ (List.take (u.toNat - l.toNat) (List.drop l.toNat xs) ++ List.drop (u.toNat - l.toNat) (List.drop l.toNat xs)) := by
          rw [List.take_append_drop, List.take_append_drop]
        rw [hsplit] at hrow
        obtain ⟨m1, m2, rfl, r1, r2⟩ := rows.of_app hrow
        obtain ⟨m3, m4, rfl, r3, r4⟩ := rows.of_app r2
        have e1 := rows.len (fun x c => K.rd_len w _ q x c) r1
        have e3 := rows.len (fun x c => K.rd_len w _ q x c) r3
        rw [hl'] at e3
        have e1' : m1.length = l.toNat * q.size := by rw [e1]; congr 1; simp; omega
        rw [← e1', List.drop_left, ← e3, List.take_left]
        exact r3
  · rename_i m
    obtain ⟨rr, A', c', hr, ev, hle, hsl⟩ := hx
    simp only [Value.slice.injEq] at ev
    obtain ⟨rfl, rfl, rfl⟩ := ev
    have hs := hsz' m (.inl rfl) _ hr
    refine ⟨_, _, e, hrun, rr, _, _, hr, rfl, by omega, by omega, ?_⟩
    rcases hsl with ⟨hreal, rfl, hcc⟩ | ⟨hz1, hz2⟩
    · by_cases hcl : cap = l.toNat
      · right; omega
      · left; refine ⟨hreal, ?_, by omega⟩
        rw [if_neg hcl]; simp [Bl.addr, addr_add, hs]
    · right; omega
  · rename_i m off len'
    obtain ⟨rr, A', c', hr, ev, hle, hoff, hsl⟩ := hx
    simp only [Value.slice.injEq] at ev
    obtain ⟨rfl, rfl, rfl⟩ := ev
    have hs := hsz' m (.inr ⟨_, _, rfl⟩) _ hr
    refine ⟨_, _, e, hrun, rr, _, _, hr, rfl, by omega, by omega, ?_⟩
    rcases hsl with ⟨hreal, rfl, hcc⟩ | ⟨hz1, hz2⟩
    · by_cases hcl : cap = l.toNat
      · right; omega
      · left; refine ⟨hreal, ?_, by omega⟩
        rw [if_neg hcl]; simp [Bl.addr, addr_add, hs, Nat.add_mul, Nat.add_assoc]
    · right; omega
  · simp at e

theorem asz_sound (h : Rel C s β a w) {x : AV} {z : Nat} (e : asz s.heap x = some z) :
    (∀ q xs fr, x = .dat (.sl q) xs fr → z = q.size) ∧ (∀ m, (x = .vf m ∨ ∃ o k, x = .vw m o k) → ∀ b, β[m]? = some b → z = b.sz) := by
  have vec : ∀ m, (match hat s.heap m with | .vec _ q _ _ => some q.size | _ => none) = some z → ∀ b, β[m]? = some b → z = b.sz := by
    intro m hm b hb
    split at hm
    · rename_i T q xs fr ho
      simp at hm
      obtain ⟨f, b', hf, hb', _, hz, _⟩ := h.obj ho (by simp)
      rw [hb] at hb'; cases hb'
      omega
    · simp at hm
  cases x with
  | dat k' y fr' =>
    refine ⟨fun q xs fr hx => ?_, fun m hx => ?_⟩
    · cases hx; simp [asz] at e; exact e.symm
    · rcases hx with hx | ⟨_, _, hx⟩ <;> cases hx
  | vf l =>
    refine ⟨fun q xs fr hx => (by cases hx), fun m hx => ?_⟩
    rcases hx with hx | ⟨_, _, hx⟩ <;> cases hx
    exact vec l e
  | vw l o k =>
    refine ⟨fun q xs fr hx => (by cases hx), fun m hx => ?_⟩
    rcases hx with hx | ⟨_, _, hx⟩ <;> cases hx
    exact vec l e
  | _ => simp [asz] at e

theorem abound_sound (h : Rel C s β a w) {d : Int} {x : Option Operand} {n : Int} (e : abound s d x = some n) :
    (x.map a.eval = none ∧ n = d) ∨ ∃ q, x.map a.eval = some (.int q n) := by
  unfold abound at e
  split at e
  · simp at e; exact .inl ⟨rfl, e.symm⟩
  · split at e
    · rename_i x q n' f hx
      simp at e; subst e
      exact .inr ⟨q, by simp [h.evInt hx]⟩
    · simp at e

theorem All2.toList_cells {w : World} {N Nf : Nat → Prop} {β : List Bl} {t : TV} {v : Value} (h : t.R w N Nf β v) (hn : ∀ cs, t ≠ .tup cs) : All2 (AV.R w N Nf β) t.cells v.cells.toList ∨ ∃ x, t = .one x := by
  cases t with
  | one x => exact .inr ⟨x, rfl⟩
  | agg cs => obtain ⟨vs, rfl, hc⟩ := h; exact .inl (by simpa [TV.cells, Value.cells] using hc)
  | tup cs => exact absurd rfl (hn cs)

theorem intsOf_sound (h : Rel C s β a w) : ∀ {xs : List Operand} {l : List (IntKind × Int)}, intsOf (xs.map s.ev) = some l → xs.map a.eval = l.map fun p => .int p.1 p.2
  | [], l, e => by simp [intsOf] at e; subst e; rfl
  | x :: xs, l, e => by
    simp only [List.map_cons] at e
    unfold intsOf at e
    split at e
    · rename_i he; simp at he
    · rename_i k n f r he
      simp only [List.cons.injEq] at he
      split at e
      · rename_i ls hls
        simp at e; subst e
        rw [← he.2] at hls
        simp [h.evInt he.1, intsOf_sound h hls]
      · simp at e
    · simp at e

theorem capsOf_sound (h : Rel C s β a w) : ∀ {xs : List Operand} {l : List Nat}, capsOf (xs.map s.ev) = some l → All2 (fun l b => ∃ r, β[l]? = some r ∧ b = Value.pointer (r.addr 0)) l (xs.map a.eval)
  | [], l, e => by simp [capsOf] at e; subst e; trivial
  | x :: xs, l, e => by
    simp only [List.map_cons] at e
    unfold capsOf at e
    split at e
    · rename_i he; simp at he
    · rename_i m r he
      simp only [List.cons.injEq] at he
      split at e
      · rename_i ls hls
        simp at e; subst e
        rw [← he.2] at hls
        refine ⟨?_, capsOf_sound h hls⟩
        have := h.ev1 he.1
        exact this
      · simp at e
    · simp at e

theorem max_fold (q : IntKind) : ∀ (r : List (IntKind × Int)) (n : Int), ((r.map fun p => Value.int p.1 p.2).foldlM Builtin.max2 (.int q n)).run P w = .ok (.int q (r.foldl (fun x y => if y.2 > x then y.2 else x) n)) w
  | [], n => rfl
  | p :: r, n => by
    simp only [List.map_cons, List.foldlM_cons, Sem.run_bind, List.foldl_cons]
    simp only [Builtin.max2, Sem.run_pure, Result.andThen_ok]
    exact max_fold q r _

theorem min_fold (q : IntKind) : ∀ (r : List (IntKind × Int)) (n : Int), ((r.map fun p => Value.int p.1 p.2).foldlM Builtin.min2 (.int q n)).run P w = .ok (.int q (r.foldl (fun x y => if y.2 < x then y.2 else x) n)) w
  | [], n => rfl
  | p :: r, n => by
    simp only [List.map_cons, List.foldlM_cons, Sem.run_bind, List.foldl_cons]
    simp only [Builtin.min2, Sem.run_pure, Result.andThen_ok]
    exact min_fold q r _

/-! ### a struct out of its parts -/
theorem AV.R_one {w : World} {N Nf : Nat → Prop} {β : List Bl} {x : AV} {v : Value} (h : x.R w N Nf β v) (h1 : x.isOne = true) : v.cells = #[v] ∧ v.oneCell' = true := by
  have key : ∀ k (y : K.den k) (M : Nat → Prop), k.rd w M y [v] → v.cells = #[v] ∧ v.oneCell' = true := by
    intro k
    induction k with
    | int q => intro y M h; simp [K.rd] at h; subst h; exact ⟨rfl, rfl⟩
    | bool => intro y M h; simp [K.rd] at h; subst h; exact ⟨rfl, rfl⟩
    | str => intro y M h; simp [K.rd] at h; subst h; exact ⟨rfl, rfl⟩
    | unit => intro y M h; simp [K.rd] at h
    | pair a b iha ihb =>
      intro y M h
      obtain ⟨c, d, e, h1, h2⟩ := h
      cases c with
      | nil => simp at e; subst e; exact ihb _ M h2
      | cons c0 c =>
        simp at e
        obtain ⟨rfl, e⟩ := e
        obtain ⟨rfl, rfl⟩ : c = [] ∧ d = [] := by simpa [and_comm] using e.symm
        exact iha _ M h1
    | sl k _ => intro y M h; obtain ⟨A, c, e, _⟩ := h; simp at e; subst e; exact ⟨rfl, rfl⟩
    | rp k _ => intro y M h; obtain ⟨A, c, _, e, _⟩ := h; simp at e; subst e; exact ⟨rfl, rfl⟩
  cases x with
  | junk => simp [AV.isOne] at h1
  | dat k y fr => exact key k y _ h
  | nilsl => have h : v = _ := h; subst h; exact ⟨rfl, rfl⟩
  | nilp => have h : v = _ := h; subst h; exact ⟨rfl, rfl⟩
  | nilf => have h : v = _ := h; subst h; exact ⟨rfl, rfl⟩
  | ro k y off fr => obtain ⟨_, _, _, rfl, _⟩ := h; exact ⟨rfl, rfl⟩
  | ptr l off => obtain ⟨_, _, rfl⟩ := h; exact ⟨rfl, rfl⟩
  | vf l => obtain ⟨_, _, _, _, rfl, _⟩ := h; exact ⟨rfl, rfl⟩
  | vw l off len => obtain ⟨_, _, _, _, rfl, _⟩ := h; exact ⟨rfl, rfl⟩
  | vp l i off => obtain ⟨_, _, rfl⟩ := h; exact ⟨rfl, rfl⟩
  | fn f caps => obtain ⟨_, rfl, _⟩ := h; exact ⟨rfl, rfl⟩
  | mp l => obtain ⟨_, _, rfl⟩ := h; exact ⟨rfl, rfl⟩
  | yl l => obtain ⟨_, _, rfl⟩ := h; exact ⟨rfl, rfl⟩
  | wk l => obtain ⟨_, _, rfl⟩ := h; exact ⟨rfl, rfl⟩
  | nili => have h : v = _ := h; subst h; exact ⟨rfl, rfl⟩
  | ifc t a => obtain ⟨_, rfl, _⟩ := h; exact ⟨rfl, rfl⟩

theorem TV.R_cells {w : World} {N Nf : Nat → Prop} {β : List Bl} {t : TV} {v : Value} (h : t.R w N Nf β v) (hs : t.solid = true) : All2 (AV.R w N Nf β) t.cells v.cells.toList := by
  cases t with
  | one x =>
    have := (AV.R_one h hs).1
    rw [this]; exact ⟨h, trivial⟩
  | agg cs => obtain ⟨vs, rfl, hc⟩ := h; simpa [TV.cells, Value.cells] using hc
  | tup cs => simp [TV.solid] at hs

theorem foldl_splice : ∀ (vs : List Value) (off j : Nat) (cells : List Value), off + j + vs.length ≤ cells.length →
    (vs.zipIdx j).foldl (fun cs p => cs.set (off + p.2) p.1) cells = cells.take (off + j) ++ vs ++ cells.drop (off + j + vs.length)
  | [], off, j, cells, h => by simp
  | v :: vs, off, j, cells, h => by
    simp only [List.length_cons] at h
    simp only [List.zipIdx_cons, List.foldl_cons]
    rw [foldl_splice vs off (j + 1) _ (by simp; omega)]
    have e : (cells.set (off + j) v) = cells.take (off + j) ++ v :: cells.drop (off + j + 1) := by
      rw [List.set_eq_take_append_cons_drop, if_pos (by omega)]
    rw [e, List.take_append, List.drop_append]
    simp only [List.length_take, List.length_cons]
    rw [show min (off + j) cells.length = off + j by omega, show off + (j + 1) - (off + j) = 1 by omega,
      show off + (j + 1) + vs.length - (off + j) = vs.length + 1 by omega, List.take_of_length_le (by simp; omega), List.drop_eq_nil_of_le (as := List.take _ _) (by simp; omega)]
    simp only [List.take_succ_cons, List.take_zero, List.nil_append, List.drop_succ_cons, List.drop_drop, List.append_assoc, List.cons_append]
    rw [show off + j + 1 + vs.length = off + j + (vs.length + 1) by omega]

theorem fill_step (cells vs : Array Value) (off : Nat) (h : off + vs.size ≤ cells.size) :
    vs.zipIdx.foldl (fun cs (p : Value × Nat) => cs.setIfInBounds (off + p.2) p.1) cells = (cells.toList.take off ++ vs.toList ++ cells.toList.drop (off + vs.size)).toArray := by
  have key : ∀ (l : List (Value × Nat)) (c : Array Value), l.foldl (fun cs p => cs.setIfInBounds (off + p.2) p.1) c = (l.foldl (fun cs p => cs.set (off + p.2) p.1) c.toList).toArray := by
    intro l
    induction l with
    | nil => intro c; simp
    | cons p l ih => intro c; simp only [List.foldl_cons]; rw [ih]; simp
  rw [← Array.foldl_toList, key]
  have := foldl_splice vs.toList off 0 cells.toList (by simpa using h)
  simp only [Nat.add_zero] at this
  rw [Array.toList_zipIdx, this]
  simp

theorem All2.splice {w : World} {N Nf : Nat → Prop} {β : List Bl} {cs new : List AV} {vs vn : List Value} {off : Nat} (h : All2 (AV.R w N Nf β) cs vs) (hn : All2 (AV.R w N Nf β) new vn) :
    All2 (AV.R w N Nf β) (splice cs off new) (vs.take off ++ vn ++ vs.drop (off + vn.length)) := by
  unfold AM.splice
  rw [hn.len]
  exact ((h.take _).app hn).app (h.drop _)

theorem afill_sound {w : World} {N Nf : Nat → Prop} {β : List Bl} {place : Nat → Option (Nat × Nat)} :
    ∀ {ps : List (Nat × TV)} {qs : List (Nat × Value)} {cells : List AV} {vals : Array Value} {out : List AV}, All2 (fun p q => p.1 = q.1 ∧ p.2.R w N Nf β q.2) ps qs →
      All2 (AV.R w N Nf β) cells vals.toList → afill place cells ps = some out → ∃ res, Instr.fill place vals qs = some res ∧ All2 (AV.R w N Nf β) out res.toList
  | [], [], cells, vals, out, _, h, e => by simp [afill] at e; subst e; exact ⟨vals, rfl, h⟩
  | (i, t) :: ps, (i', v) :: qs, cells, vals, out, hp, h, e => by
    obtain ⟨⟨rfl, ht⟩, hp⟩ := hp
    unfold afill at e
    unfold Instr.fill
    split at e
    · simp at e
    · rename_i off size hpl
      split at e
      · rename_i hc
        obtain ⟨hs, hl, hle⟩ := hc
        have hcl := TV.R_cells ht hs
        have hlen := hcl.len
        have hlen' := h.len
        simp only [Array.length_toList] at hlen hlen'
        rw [hpl]
        dsimp only
        rw [if_neg (by simp; omega)]
        have hf := fill_step vals v.cells off (by omega)
        have hsp := h.splice (off := off) hcl
        obtain ⟨res, hr, ho⟩ := afill_sound (vals := (vals.toList.take off ++ v.cells.toList ++ vals.toList.drop (off + v.cells.size)).toArray) hp (by simpa using hsp) e
        exact ⟨res, by rw [← hr]; congr 1, ho⟩
      · simp at e
  | [], _ :: _, _, _, _, h, _, _ => h.elim
  | _ :: _, [], _, _, _, h, _, _ => h.elim
end
end Go.Proofs.AM
