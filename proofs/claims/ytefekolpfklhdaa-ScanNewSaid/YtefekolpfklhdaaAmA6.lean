/- The value operations, joined. -/
import Derived.Test.YtefekolpfklhdaaAmA5
import Derived.Laws.StructEq
set_option maxRecDepth 2000
set_option linter.unusedVariables false
set_option linter.unusedSimpArgs false
namespace Go.Proofs.AM
open Go Go.RowKit

/-- What a list of parts comes to. -/
theorem cut_part {P : Program} {w : World} {N Nf : Nat → Prop} {β : List Bl} {t : TypeId} {cs : List AV} {off : Nat} {vs : List Value} {tv : TV}
    (h : cut P t cs off some = some tv) (hc : All2 (AV.R w N Nf β) cs vs) : ∃ v, (part t vs.toArray off).run P w = .ok v w ∧ tv.R w N Nf β v := by
  obtain ⟨d, inf, tv', hd, hi, hl, ht, hk⟩ := cut_some h
  cases hk
  obtain ⟨v, hvr, hcase⟩ := shapeTV_R ht ((hc.drop off).take inf.size)
  refine ⟨v, ?_, hvr⟩
  simp only [part, Sem.run_bind, run_isAgg hd, Result.andThen_ok]
  by_cases hg : isAggT P t = true
  · simp only [hg, if_true] at hcase ⊢
    simp only [Sem.run_bind, run_sizeOf hi, Result.andThen_ok, Sem.run_pure, hcase]
    congr 3
    rw [List.extract_toArray, List.extract_eq_take_drop]
    simp
  · simp only [hg] at hcase ⊢
    have : vs[off]? = some v := by
      have e0 : ((vs.drop off).take inf.size)[0]? = some v := by rw [hcase]; rfl
      rw [List.getElem?_take] at e0
      split at e0
      · simpa using e0
      · simp at e0
    simp [this]

theorem aeqFields_sound {P : Program} {w : World} {N Nf : Nat → Prop} {β : List Bl} {f : TypeId → TV → TV → Option Bool} {d : Nat}
    (hf : ∀ t x y u v b, f t x y = some b → x.R w N Nf β u → y.R w N Nf β v → (Op.equalIn d t u v).run P w = .ok b w) {xs ys : List AV} {us vs : List Value} (hx : All2 (AV.R w N Nf β) xs us) (hy : All2 (AV.R w N Nf β) ys vs) :
    ∀ (fs : List Field) (b : Bool), aeqFields P f xs ys fs = some b → (Op.eqFields d us.toArray vs.toArray fs).run P w = .ok b w
  | [], b, e => by simp [aeqFields] at e; subst e; simp [Op.eqFields]
  | g :: r, b, e => by
    unfold aeqFields at e
    split at e
    · simp at e
    rename_i hn
    split at e
    rotate_left
    · simp at e
    rename_i a c h1 h2
    obtain ⟨u, hu, hur⟩ := cut_part h1 hx
    obtain ⟨v, hv, hvr⟩ := cut_part h2 hy
    split at e
    rotate_left
    · simp at e
    rename_i p hp
    have he := hf _ _ _ _ _ _ hp hur hvr
    have hn' : g.name ≠ "_" := hn
    split at e
    · simp only [Option.some.injEq] at e
      subst e
      simp only [Op.eqFields, if_pos hn', Sem.run_bind, hu, hv, he, Result.andThen_ok]
      cases p <;> simp
    · split at e
      · rename_i q hq
        simp only [Option.some.injEq] at e
        subst e
        have ih := aeqFields_sound hf hx hy r q hq
        rw [Op.eqFields]
        simp only [if_pos hn', Sem.run_bind, hu, hv, he, Result.andThen_ok]
        cases p
        · simp
        · simpa using ih
      · simp at e

theorem aeq_sound {P : Program} {w : World} {N Nf : Nat → Prop} {β : List Bl} : ∀ (n d : Nat) (t : TypeId) (x y : TV) (u v : Value) (b : Bool), aeq P n t x y = some b → x.R w N Nf β u → y.R w N Nf β v → (Op.equalIn (n + d) t u v).run P w = .ok b w
  | 0, _, _, _, _, _, _, _, e, _, _ => by simp [aeq] at e
  | n + 1, d, t, x, y, u, v, b, e, hx, hy => by
    rw [show n + 1 + d = (n + d) + 1 by omega]
    unfold aeq at e
    split at e
    · rename_i p _ q _ hu
      simp only [Option.some.injEq] at e
      subst e
      have h1 : u = .bool p := by simpa [TV.R, AV.R, K.rd] using hx
      have h2 : v = .bool q := by simpa [TV.R, AV.R, K.rd] using hy
      subst h1; subst h2
      simp [Op.equalIn, run_underlying' hu]
    · rename_i k p _ k' q _ hu
      split at e
      · rename_i hk
        subst hk
        simp only [Option.some.injEq] at e
        subst e
        have h1 : u = .int k p := by simpa [TV.R, AV.R, K.rd] using hx
        have h2 : v = .int k q := by simpa [TV.R, AV.R, K.rd] using hy
        subst h1; subst h2
        simp [Op.equalIn, run_underlying' hu]
      · simp at e
    · rename_i fs xs ys hu
      split at e
      · simp at e
      rename_i hs
      obtain ⟨us, rfl, hxs⟩ := hx
      obtain ⟨vs, rfl, hys⟩ := hy
      have hfs : P.fieldsOf t = fs := by simp [Program.fieldsOf, hu]
      rw [run_equalIn_struct (P := P) w (n + d) t us.toArray vs.toArray (by rw [hfs]; exact hu) (by simpa using hs), hfs]
      exact aeqFields_sound (fun t x y u v b e hx hy => aeq_sound n d t x y u v b e hx hy) hxs hys fs.toList b e
    · simp at e

theorem All2.parts {C : Cx} {s : AS} {β : List Bl} {a : Act} {w : World} (h : Rel C s β a w) : ∀ (l : List (Nat × Operand)),
    All2 (fun p q => p.1 = q.1 ∧ p.2.R w (C.N s.heap β w) (C.fresh s.heap β w) β q.2) (l.map fun p => (p.1, s.ev p.2)) (l.map fun p => (p.1, a.eval p.2))
  | [] => trivial
  | p :: l => ⟨⟨rfl, h.ev p.2⟩, All2.parts h l⟩

section
variable {P : Program} {C : Cx} {s : AS} {β : List Bl} {a : Act} {w : World} {R : Type} {k : TV → Option R} {r : R}

theorem Makes.value {o : Oper} {x : Sem Value} (he : execOp a.eval o = (do pure (.value (← x)))) (h : Makes P C s β w x k r) :
    ∃ tv v, k tv = some r ∧ (execOp a.eval o).run P w = .ok (.value v) w ∧ tv.R w (C.N s.heap β w) (C.fresh s.heap β w) β v := by
  obtain ⟨tv, v, h1, h2, h3⟩ := h
  exact ⟨tv, v, h1, by rw [he]; simp only [Sem.run_bind, h2, Result.andThen_ok, Sem.run_pure], h3⟩

theorem abuiltin_sound (h : Rel C s β a w) {o : Oper} {c : Call} (ho : o.op = .call c) (e : abuiltin P s c k = some r) :
    ∃ tv v, k tv = some r ∧ (execOp a.eval o).run P w = .ok (.value v) w ∧ tv.R w (C.N s.heap β w) (C.fresh s.heap β w) β v := by
  unfold abuiltin at e
  split at e
  · rename_i hcal
    split at e
    · rename_i x t hargs htypes
      split at e
      · rename_i et v ht hx
        split at e
        · rename_i n hn
          obtain ⟨A, len, cap, hv, rfl, _⟩ := alen_sound h (h.ev1 hx) hn
          refine ⟨_, _, e, ?_, rfl⟩
          have ha : c.args = #[x] := by rw [← Array.toArray_toList (xs := c.args), hargs]
          have hat : c.argTypes = #[t] := by rw [← Array.toArray_toList (xs := c.argTypes), htypes]
          simp only [execOp, ho, resolve, hcal, ha, hat, List.map_toArray, List.map_cons, List.map_nil, Sem.run_bind, Sem.run_pure, Result.andThen_ok, invoke, builtin, Builtin.len_, hv]
          simp [run_underlying' (aelem_some ht), goInt]
        · simp at e
      · rename_i l ht hx
        split at e
        · rename_i kt vt ki vi es fr hu hob
          obtain ⟨rr, hr, hv⟩ := h.ev1 hx
          obtain ⟨f, r0, g1, g2, l0, ck, g3, g4, g5⟩ := h.obj hob (by simp)
          rw [hr] at g2; cases g2
          refine ⟨_, _, e, ?_, rfl⟩
          have ha : c.args = #[x] := by rw [← Array.toArray_toList (xs := c.args), hargs]
          have hat : c.argTypes = #[t] := by rw [← Array.toArray_toList (xs := c.argTypes), htypes]
          simp only [execOp, ho, resolve, hcal, ha, hat, List.map_toArray, List.map_cons, List.map_nil, Sem.run_bind, Sem.run_pure, Result.andThen_ok, invoke, builtin, Builtin.len_, hv]
          simp [run_underlying' hu, goInt, getObj, Sem.run_bind, g3, Result.andThen, ← All2.len g5, Sem.run]
        · simp at e
      · simp at e
    · simp at e
  · rename_i hcal
    split at e
    · rename_i q n l hl
      have := intsOf_sound h hl
      refine ⟨_, _, e, ?_, rfl⟩
      simp only [execOp, ho, resolve, hcal, Sem.run_bind, Sem.run_pure, Result.andThen_ok, invoke, builtin, Builtin.max_]
      have e2 : (c.args.map a.eval).toList = (Value.int q n) :: l.map fun p => .int p.1 p.2 := by simpa using this
      rw [e2]
      simp only [max_fold, Result.andThen_ok]
    · simp at e
  · rename_i hcal
    split at e
    · rename_i q n l hl
      have := intsOf_sound h hl
      refine ⟨_, _, e, ?_, rfl⟩
      simp only [execOp, ho, resolve, hcal, Sem.run_bind, Sem.run_pure, Result.andThen_ok, invoke, builtin, Builtin.min_]
      have e2 : (c.args.map a.eval).toList = (Value.int q n) :: l.map fun p => .int p.1 p.2 := by simpa using this
      rw [e2]
      simp only [min_fold, Result.andThen_ok]
    · simp at e
  · simp at e

theorem anil_equal {N Nf : Nat → Prop} (d : Nat) {t : TypeId} {p q : AV} {u v : Value} {b : Bool} (hb : anilEq P t p q = some b) (hu : p.R w N Nf β u) (hv : q.R w N Nf β v) : (Op.equalIn (d + 1) t u v).run P w = .ok b w := by
  unfold anilEq at hb
  split at hb
  · rename_i pt hpt
    split at hb
    · cases hb; have hu : u = _ := hu; have hv : v = _ := hv; subst hu; subst hv; simp [Op.equalIn, run_underlying' hpt]
    · cases hb; obtain ⟨rr, _, hu⟩ := hu; have hv : v = _ := hv; subst hu; subst hv; simp [Op.equalIn, run_underlying' hpt, Bl.addr]
    · cases hb; obtain ⟨_, _, _, hu, _⟩ := hu; have hv : v = _ := hv; subst hu; subst hv; simp [Op.equalIn, run_underlying' hpt]
    · cases hb; obtain ⟨rr, _, hu⟩ := hu; have hv : v = _ := hv; subst hu; subst hv; simp [Op.equalIn, run_underlying' hpt, Bl.addr]
    · simp at hb
  · rename_i hpt
    split at hb
    · cases hb; have hu : u = _ := hu; have hv : v = _ := hv; subst hu; subst hv; simp [Op.equalIn, run_underlying' hpt]
    · cases hb; obtain ⟨_, hu, _⟩ := hu; have hv : v = _ := hv; subst hu; subst hv; simp [Op.equalIn, run_underlying' hpt]
    · simp at hb
  · rename_i hpt
    split at hb
    · cases hb; obtain ⟨_, hu, _⟩ := hu; have hv : v = _ := hv; subst hu; subst hv; simp [Op.equalIn, run_underlying' hpt]
    · simp at hb
  · rename_i hpt
    split at hb
    · rename_i a _ b _
      cases hb
      have hu : u = .bool a := by simpa [AV.R, K.rd] using hu
      have hv : v = .bool b := by simpa [AV.R, K.rd] using hv
      subst hu; subst hv
      simp only [Op.equalIn, Sem.run_bind, run_underlying' hpt, Result.andThen_ok, Sem.run_pure]
      cases a <;> cases b <;> rfl
    · simp at hb
  · simp at hb

/-- Values that are held against nil: no numbers, no structs. -/
theorem anil_shape {N Nf : Nat → Prop} {t : TypeId} {p q : AV} {u v : Value} {b : Bool} (hb : anilEq P t p q = some b) (hu : p.R w N Nf β u) (hv : q.R w N Nf β v) :
    (∃ A, u = .pointer A) ∧ v = .pointer none ∨ (u = .nilFunc ∨ ∃ f a c, u = .func f a c) ∧ v = .nilFunc ∨ (∃ s z, u = .iface s z) ∧ v = .nilIface ∨ (∃ p q, u = .bool p ∧ v = .bool q) := by
  unfold anilEq at hb
  split at hb
  · split at hb
    · exact .inl ⟨⟨_, hu⟩, hv⟩
    · obtain ⟨_, _, hu⟩ := hu; exact .inl ⟨⟨_, hu⟩, hv⟩
    · obtain ⟨_, _, _, hu, _⟩ := hu; exact .inl ⟨⟨_, hu⟩, hv⟩
    · obtain ⟨_, _, hu⟩ := hu; exact .inl ⟨⟨_, hu⟩, hv⟩
    · simp at hb
  · split at hb
    · exact .inr (.inl ⟨.inl hu, hv⟩)
    · obtain ⟨_, hu, _⟩ := hu; exact .inr (.inl ⟨.inr ⟨_, _, _, hu⟩, hv⟩)
    · simp at hb
  · split at hb
    · obtain ⟨_, hu, _⟩ := hu; exact .inr (.inr (.inl ⟨⟨_, _, hu⟩, hv⟩))
    · simp at hb
  · split at hb
    · rename_i a _ b _
      have hu : u = .bool a := by simpa [AV.R, K.rd] using hu
      have hv : v = .bool b := by simpa [AV.R, K.rd] using hv
      exact .inr (.inr (.inr ⟨_, _, hu, hv⟩))
    · simp at hb
  · simp at hb

theorem anil_run {N Nf : Nat → Prop} {t : TypeId} {x y : Operand} {p q : AV} {u v : Value} {b : Bool} (hb : anilEq P t p q = some b) (hu : p.R w N Nf β u) (hv : q.R w N Nf β v) :
    (eqGuard .eql t x y u v).run P w = .ok () w ∧ (eqGuard .neq t x y u v).run P w = .ok () w ∧ (binOp .eql t u v).run P w = .ok (.bool b) w ∧ (binOp .neq t u v).run P w = .ok (.bool (!b)) w := by
  have he : (Op.equal t u v).run P w = .ok b w := anil_equal 9999 hb hu hv
  rcases anil_shape hb hu hv with ⟨⟨A, rfl⟩, rfl⟩ | ⟨rfl | ⟨f, a, c, rfl⟩, rfl⟩ | ⟨⟨s, z, rfl⟩, rfl⟩ | ⟨p, q, rfl, rfl⟩ <;> simp [eqGuard, binOp, he]

set_option maxHeartbeats 1000000 in
theorem aval_sound (h : Rel C s β a w) {o : Oper} (e : aval P s o k = some r) :
    ∃ tv v, k tv = some r ∧ (execOp a.eval o).run P w = .ok (.value v) w ∧ tv.R w (C.N s.heap β w) (C.fresh s.heap β w) β v := by
  unfold aval at e
  split at e
  · -- move
    rename_i x ho
    exact ⟨_, _, e, by simp [execOp, ho], h.ev x⟩
  · rename_i x ho
    exact ⟨_, _, e, by simp [execOp, ho], h.ev x⟩
  · -- pick
    rename_i c x y ho
    split at e
    · rename_i t f hc
      have hrun : (execOp a.eval o).run P w = .ok (.value (if t = true then a.eval x else a.eval y)) w := by
        simp [execOp, ho, h.evBool hc, asBool]
      split at e
      · rename_i b1 f1 b2 f2 hx hy
        refine ⟨_, _, e, hrun, ?_⟩
        cases t <;> simp [TV.R, AV.R, K.rd, h.evBool hx, h.evBool hy]
      · cases t
        · exact ⟨_, _, e, hrun, h.ev y⟩
        · exact ⟨_, _, e, hrun, h.ev x⟩
    · simp at e
  · -- load
    rename_i t x ho
    split at e
    · rename_i v hx
      exact (aload_sound h (h.ev1 hx) e).value (by simp [execOp, ho])
    · simp at e
  · -- nilCheck
    rename_i x ho
    split at e
    · rename_i l off hx
      have := h.ev1 hx
      obtain ⟨rr, hr, hv⟩ := this
      exact ⟨_, _, e, by simp [execOp, ho, hv, Bl.addr], rr, hr, rfl⟩
    · rename_i f c hx
      have := h.ev1 hx
      obtain ⟨bs, hv, hb⟩ := this
      exact ⟨_, _, e, by simp [execOp, ho, hv], bs, rfl, hb⟩
    · rename_i q x' off fr hx
      have := h.ev1 hx
      obtain ⟨b, o', es, hv, h1⟩ := this
      exact ⟨_, _, e, by simp [execOp, ho, hv], b, o', es, rfl, h1⟩
    · rename_i q x' fr hx
      have := h.ev1 hx
      obtain ⟨b, o', es, hv, h1⟩ := this
      simp only [List.cons.injEq, and_true] at hv
      exact ⟨_, _, e, by simp [execOp, ho, hv], b, o', es, rfl, h1⟩
    · simp at e
  · -- binOp
    rename_i op t x y ty ho
    split at e
    · rename_i kx m f ky n g hx hy
      refine (abin_sound (C := C) (s := s) (β := β) (w := w) (P := P) (t := t) (x := x) (y := y) e).value ?_
      simp only [execOp, ho, h.evInt hx, h.evInt hy]
    · rename_i xs ys hx hy
      have hvx := h.ev x
      rw [hx] at hvx
      have hvy := h.ev y
      rw [hy] at hvy
      split at e
      · simp at e
      rename_i hgd
      have hgd : P.eqGuardType P.depth t = false := by simpa using hgd
      split at e
      · split at e
        · rename_i b hb
          have := aeq_sound (w := w) 8 9992 t _ _ _ _ b hb hvx hvy
          obtain ⟨us, hu, _⟩ := hvx
          obtain ⟨vs, hv, _⟩ := hvy
          rw [hu, hv] at this
          refine ⟨_, .bool b, e, ?_, by simp [TV.R, AV.R, K.rd]⟩
          simp only [execOp, ho, hu, hv, Sem.run_bind, run_eqGuard_agg w _ _ _ _ _ _ hgd, Result.andThen_ok, run_eql_struct, run_neq_struct]
          rw [show (10000 : Nat) = 8 + 9992 from rfl, this]
          rfl
        · simp at e
      · split at e
        · rename_i b hb
          have := aeq_sound (w := w) 8 9992 t _ _ _ _ b hb hvx hvy
          obtain ⟨us, hu, _⟩ := hvx
          obtain ⟨vs, hv, _⟩ := hvy
          rw [hu, hv] at this
          refine ⟨_, .bool (!b), e, ?_, by simp [TV.R, AV.R, K.rd]⟩
          simp only [execOp, ho, hu, hv, Sem.run_bind, run_eqGuard_agg w _ _ _ _ _ _ hgd, Result.andThen_ok, run_eql_struct, run_neq_struct]
          rw [show (10000 : Nat) = 8 + 9992 from rfl, this]
          rfl
        · simp at e
      · simp at e
    · rename_i u v hx hy
      have hu := h.ev1 hx
      have hv := h.ev1 hy
      split at e
      rotate_left
      · simp at e
      rename_i b hb
      have key := anil_run (x := x) (y := y) (w := w) hb hu hv
      obtain ⟨k1, k2, k3, k4⟩ := key
      split at e
      · exact ⟨_, .bool b, e, by simp only [execOp, ho, Sem.run_bind, k1, Result.andThen_ok, k3, Sem.run_pure], by simp [TV.R, AV.R, K.rd]⟩
      · exact ⟨_, .bool (!b), e, by simp only [execOp, ho, Sem.run_bind, k2, Result.andThen_ok, k4, Sem.run_pure], by simp [TV.R, AV.R, K.rd]⟩
      · simp at e
    · simp at e
  · -- unOp
    rename_i op t x ho
    split at e
    · rename_i b f hx
      refine ⟨_, _, e, by simp [execOp, ho, h.evBool hx, Op.unary], rfl⟩
    · rename_i q n f hx
      refine ⟨_, _, e, by simp [execOp, ho, h.evInt hx, Op.unary, Op.intArith]; rfl, ?_⟩
      simp [TV.R, AV.R, K.rd]
    · simp at e
  · -- convert
    rename_i src dst x ho
    split at e
    · rename_i d kd q n f hs hd hx
      refine ⟨_, _, e, ?_, rfl⟩
      simp only [execOp, ho, h.evInt hx, convert, Sem.run_bind, run_underlying' hs, run_underlying' hd, Result.andThen_ok, Conv.intToInt, Sem.run_pure]
    · simp at e
  · -- makeFunc
    rename_i f first captured ho
    split at e
    · rename_i ls hf hl
      have := capsOf_sound h hl
      have hf' : first = #[] := by rw [← Array.toArray_toList (xs := first), hf]
      refine ⟨_, .func (.func f) #[] (captured.toList.map a.eval).toArray, e, ?_, captured.toList.map a.eval, rfl, this⟩
      simp [execOp, ho, hf', Instr.makeFunc]
      apply Array.ext' ; simp
    · simp at e
  · -- extract
    rename_i x i ho
    split at e
    · rename_i cs hx
      split at e
      · rename_i agg c hc
        split at e
        · rename_i tv ht
          have hv := h.ev x
          rw [hx] at hv
          obtain ⟨vs, hv, hr⟩ := hv
          obtain ⟨v, hvi, hcv⟩ := hr.get hc
          refine ⟨_, v, e, by simp [execOp, ho, hv, Instr.extract, hvi], ?_⟩
          cases agg with
          | true =>
            simp only [shapeTV, Option.some.injEq] at ht; subst ht
            obtain ⟨ws, rfl, hw⟩ := hcv
            exact ⟨ws, rfl, hw⟩
          | false =>
            match c, ht, hcv with
            | [x0], ht, hcv => simp only [shapeTV, Option.some.injEq] at ht; subst ht; exact hcv
        · simp at e
      · simp at e
    · simp at e
  · -- fieldAddr
    rename_i t x i ho
    split at e
    · rename_i f v hf hx
      exact (afieldAddr_sound hf (h.ev1 hx) e).value (by simp [execOp, ho])
    · simp at e
  · -- field
    rename_i t x i ho
    split at e
    · rename_i f cs hf hx
      obtain ⟨fs, hu, hfi⟩ := afields_some hf
      obtain ⟨d, inf, tv, hd, hi, hl, ht, hk⟩ := cut_some e
      have hv := h.ev x
      rw [hx] at hv
      obtain ⟨vs, hv, hr⟩ := hv
      obtain ⟨v, hvr, hcase⟩ := shapeTV_R ht ((hr.drop f.offset).take inf.size)
      refine ⟨tv, v, hk, ?_, hvr⟩
      have hlen := ((hr.drop f.offset).take inf.size).len
      rw [hl] at hlen
      simp only [execOp, ho, Instr.field, hv, Sem.run_bind, run_underlying' hu, Result.andThen_ok, hfi, asAgg, Sem.run_pure, part, run_isAgg hd]
      by_cases hg : isAggT P f.type = true
      · simp only [hg, if_true] at hcase ⊢
        simp only [Sem.run_bind, run_sizeOf hi, Result.andThen_ok, Sem.run_pure, hcase]
        congr 3
        rw [List.extract_toArray, List.extract_eq_take_drop]
        simp
      · simp only [hg] at hcase ⊢
        have : vs[f.offset]? = some v := by
          have e0 : ((vs.drop f.offset).take inf.size)[0]? = some v := by rw [hcase]; rfl
          rw [List.getElem?_take] at e0
          split at e0
          · simpa using e0
          · simp at e0
        simp [this]
    · simp at e
  · -- indexAddr
    rename_i t x i ho
    split at e
    · rename_i et v q n f ht hx hi
      refine (aindexAddr_sound h ht (h.ev1 hx) (q := q) e).value ?_
      simp only [execOp, ho, h.evInt hi]
    · simp at e
  · -- slice
    rename_i t x lo hi ho
    split at e
    · rename_i et v ht hx
      split at e
      · rename_i n z hn hz
        split at e
        · rename_i l u hl hu
          obtain ⟨inf, hinf, hs, e⟩ := szOk_some e
          obtain ⟨z1, z2⟩ := asz_sound h hz
          have := aslice_sound h ht hinf (h.ev1 hx) hn (lo := lo.map a.eval) (hi := hi.map a.eval)
            (abound_sound h hl)
            (abound_sound h hu)
            (fun q xs fr hq => by rw [hs]; exact z1 q xs fr hq) (fun m hm b hb => by rw [hs]; exact z2 m hm b hb) e
          exact this.value (by simp [execOp, ho])
        · simp at e
      · simp at e
    · simp at e
  · -- build
    rename_i t parts ho
    split at e
    · rename_i z ps hz hp
      split at e
      · rename_i cs hc
        unfold azero at hz
        split at hz
        · rename_i inf hi
          split at hz
          · rename_i zv hzv
            simp only [Option.some.injEq] at hz; subst hz
            unfold placesOf at hp
            split at hp
            · rename_i fs hu
              have hzc : All2 (AV.R w (C.N s.heap β w) (C.fresh s.heap β w) β) (constTV zv).cells zv.cells.toList := by
                unfold constTV
                split
                · rename_i cs; simpa [TV.cells, Value.cells] using All2_const cs.toList
                · rename_i hne
                  have hvc : zv.cells = #[zv] := by
                    unfold Value.cells
                    split
                    · exact absurd rfl (hne _)
                    · rfl
                  rw [hvc]; exact ⟨constAV_R _, trivial⟩
              obtain ⟨res, hres, hr⟩ := afill_sound (All2.parts h parts.toList) hzc hc
              have hb : P.built t (parts.map fun (x : Nat × Operand) => (x.1, a.eval x.2)).toList = some res := by
                unfold Program.built
                simp only [hi, hu, hzv, hp]
                rw [← hres]; rw [Array.toList_map]
              refine ⟨_, .agg res, e, ?_, res.toList, by simp, hr⟩
              simp only [execOp, ho]
              have := run_build w t (parts.map fun (x : Nat × Operand) => (x.1, a.eval x.2)) res hb
              simp only [Sem.run_bind, this, Result.andThen_ok, Sem.run_pure]
            · simp at hp
          · simp at hz
        · simp at hz
      · simp at e
    · simp at e
  · -- call
    rename_i c ho
    exact abuiltin_sound h ho e
  · -- makeInterface
    rename_i t x ho
    split at e
    · simp at e
    · rename_i d av hne hd hx
      have hx := h.ev1 hx
      have hrun : (execOp a.eval o).run P w = .ok (.value (.iface t (a.eval x))) w := by
        simp only [execOp, ho, Instr.makeInterface, Sem.run_bind, run_underlying' hd, Result.andThen_ok]
        cases d <;> first | rfl | exact absurd hd (hne _)
      split at e
      · simp at e
      · exact ⟨_, _, e, hrun, _, rfl, hx⟩
    · simp at e
  · simp at e
end
end Go.Proofs.AM
