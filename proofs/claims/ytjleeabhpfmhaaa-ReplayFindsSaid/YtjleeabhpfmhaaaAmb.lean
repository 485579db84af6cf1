/- A machine that reckons what a function of the program comes to, and that what it reckons is what the program does. No condition. -/
import Derived.Test.YtjleeabhpfmhaaaAma
import Derived.Maps.RangeRun
import Derived.Lib.MakeNoZero
import Derived.Laws.Cover3
set_option maxRecDepth 2000
set_option linter.unusedVariables false
set_option linter.unusedSimpArgs false
section
namespace Go.Proofs.AM
open Go Go.RowKit

theorem hkill_len (h : Heap) : ∀ (T : List Nat), (hkill h T).length = h.length
  | [] => rfl
  | x :: T => by simp [hkill, hkill_len h T]

theorem hkill_ne (h : Heap) : ∀ (T : List Nat) (l : Nat), l ∉ T → (hkill h T)[l]? = h[l]?
  | [], l, _ => rfl
  | x :: T, l, hl => by
    have h1 : l ≠ x := fun e => hl (by simp [e])
    have h2 : l ∉ T := fun e => hl (by simp [e])
    simp only [hkill]
    rw [List.getElem?_set_ne (Ne.symm h1), hkill_ne h T l h2]

theorem hkill_mem (h : Heap) : ∀ (T : List Nat) (l : Nat), l ∈ T → l < h.length → (hkill h T)[l]? = some (true, .dead)
  | x :: T, l, hl, hlt => by
    simp only [hkill]
    by_cases e : x = l
    · subst e
      rw [List.getElem?_set_self (by rw [hkill_len]; exact hlt)]
    · have : l ∈ T := by simpa [Ne.symm e] using hl
      rw [List.getElem?_set_ne e, hkill_mem h T l this hlt]

section
variable {P : Program} {C : Cx} {s : AS} {β : List Bl} {a : Act} {w : World}

theorem deep_move (h : Rel C s β a w) {w' : World} (K : List Nat) (hK : ∀ l ∈ K, ∃ o, s.heap[l]? = some o ∧ o.2 ≠ .mark) (o : AObj) (r : Bl)
    (hos : w'.os = w.os) (htape : w'.tape = w.tape) (hout : w'.output = w.output) (hsz : w.heap.size ≤ w'.heap.size)
    (hblk : ∀ b, b < w.heap.size → (∀ (m : Nat) (o0 : Bool × AObj) (rr : Bl), m ∈ K → s.heap[m]? = some o0 → β[m]? = some rr → b ∉ o0.2.occ rr) → w'.heap[b]? = w.heap[b]?)
    (hocc : ∀ b, b ∈ o.occ r → b < w'.heap.size ∧ (w.heap.size ≤ b ∨ ∃ (m : Nat) (o0 : Bool × AObj) (rr : Bl), m ∈ K ∧ s.heap[m]? = some o0 ∧ β[m]? = some rr ∧ b ∈ o0.2.occ rr))
    (hR : ∀ N Nf, o.R w' N Nf (β ++ [r]) r) (hdr : w.drawn ≤ w'.drawn := by first | exact Nat.le_refl _ | exact Nat.le_succ _) :
    Rel C { s with heap := hkill s.heap K ++ [(true, o)] } (β ++ [r]) a w' := by
  have hlt : ∀ m ∈ K, m < s.heap.length := fun m e => by
    obtain ⟨o, hm, _⟩ := hK m e
    exact (List.getElem?_eq_some_iff.1 hm).1
  have hkl := hkill_len s.heap K
  have hnew : ∀ (m : Nat) (o1 : Bool × AObj) (r1 : Bl), (hkill s.heap K ++ [(true, o)])[m]? = some o1 → (β ++ [r])[m]? = some r1 → (m ∈ K ∨ s.heap.length ≤ m) →
      (m ∈ K ∧ o1 = (true, .dead)) ∨ (m = s.heap.length ∧ o1 = (true, o) ∧ r1 = r) := by
    intro m o1 r1 h1 h2 h3
    by_cases hm : m < s.heap.length
    · have h4 := h3.resolve_right (by omega)
      rw [List.getElem?_append_left (by omega), hkill_mem _ _ _ h4 hm] at h1
      exact .inl ⟨h4, by simpa using h1.symm⟩
    · right
      have : m = s.heap.length := by have := (List.getElem?_eq_some_iff.1 h1).1; simp at this; omega
      subst this
      refine ⟨rfl, by rw [List.getElem?_append_right (by omega), hkl] at h1; simpa using h1.symm, ?_⟩
      rw [← h.bsize] at h2; simpa using h2.symm
  have := h.gen (hdr := hdr) (hkill s.heap K ++ [(true, o)]) [r] w' (fun m => m ∈ K) hos htape hout hsz (by simp [hkl])
    (fun m o1 h1 hn => ⟨o1, by rw [List.getElem?_append_left (by rw [hkl]; exact (List.getElem?_eq_some_iff.1 h1).1), hkill_ne _ _ _ hn]; exact h1, rfl⟩)
    (fun m _ h1 => by
      have hn : m ∉ K := fun e => by
        obtain ⟨o, hm, hne⟩ := hK m e
        rw [h1] at hm; cases hm; exact hne rfl
      rw [List.getElem?_append_left (by rw [hkl]; exact (List.getElem?_eq_some_iff.1 h1).1), hkill_ne _ _ _ hn]; exact h1)
    (fun b hb hx => hblk b hb (fun m o0 rr e1 e2 e3 => hx m o0 rr e2 e3 e1))
    (fun m o1 r1 b h1 h2 h3 hx => by
      rcases hnew m o1 r1 h1 h2 h3 with ⟨_, rfl⟩ | ⟨rfl, rfl, rfl⟩
      · simp [AObj.occ] at hx
      · obtain ⟨g1, g2⟩ := hocc b hx
        refine ⟨g1, g2.imp id ?_⟩
        rintro ⟨m, o0, rr, e1, e2, e3, e4⟩
        exact ⟨m, o0, rr, e2, e3, e1, e4⟩)
    (fun m m' o1 o2 r1 r2 b h1 h2 h1' h2' h3 h3' hx hx' => by
      rcases hnew m o1 r1 h1 h2 h3 with ⟨_, rfl⟩ | ⟨rfl, rfl, rfl⟩
      · simp [AObj.occ] at hx
      · rcases hnew m' o2 r2 h1' h2' h3' with ⟨_, rfl⟩ | ⟨rfl, rfl, rfl⟩
        · simp [AObj.occ] at hx'
        · rfl)
    (fun m o1 r1 h1 h2 h3 k1 k2 k3 k4 => by
      rcases hnew m o1 r1 h1 h2 h3 with ⟨_, rfl⟩ | ⟨rfl, rfl, rfl⟩
      · trivial
      · exact hR _ _)
  exact this.1

theorem append_raw {t ty e : TypeId} {i : TypeInfo} {zv : Value} (ht : P.underlying t = some (.slice e)) (hi : P.info? e = some i) (hzv : i.zero = some zv) {sz : Nat} (hsz : i.size = sz) (hzl : zv.cells.size = sz)
    {A B : Option Addr} {n c m c2 b cap : Nat} {pre olds post news : List Value} (lo : olds.length = n * sz) (ln : news.length = m * sz) (hone : ∀ u ∈ news, u.oneCell' = true) (hnc : n ≤ c)
    (hA : (n = 0 ∧ c = 0) ∨ (A = some ⟨b, pre.length, none⟩ ∧ w.heap[b]? = some (.cells (pre ++ olds ++ post).toArray e (0, 0)) ∧ olds.length + post.length = cap * sz ∧ c ≤ cap))
    (hcn : m = 0 ∨ ∃ b o, B = some ⟨b, o, none⟩ ∧ cellsAt w b o news) (hb1 : (n + m) * i.bytes ≤ 140737488355328) (hb2 : n + m ≤ 140737488355328) :
    ∃ v' w', (Builtin.append_ #[t, t] ty #[.slice A n c, .slice B m c2]).run P w = .ok v' w' ∧
      ((n = 0 ∧ m = 0 ∧ c = 0 ∧ v' = .slice A 0 0 ∧ w' = w) ∨
       (n + m ≤ c ∧ A = some ⟨b, pre.length, none⟩ ∧ w.heap[b]? = some (.cells (pre ++ olds ++ post).toArray e (0, 0)) ∧ olds.length + post.length = cap * sz ∧ c ≤ cap ∧ news.length ≤ post.length ∧
         v' = .slice A (n + m) c ∧ w' = w.setRow b (pre ++ olds ++ news ++ post.drop news.length).toArray) ∨
       (∃ cap' zs, n + m ≤ cap' ∧ olds.length + news.length + zs.length = cap' * sz ∧ v' = .slice (some ⟨w.heap.size, 0, none⟩) (n + m) cap' ∧ w' = w.drew.alloc (.cells ([] ++ (olds ++ news) ++ zs).toArray e))) := by
  by_cases hroom : n + m ≤ c
  · rcases hA with ⟨hn0, hc0⟩ | ⟨rfl, hh, hcap, hcc⟩
    · obtain rfl : m = 0 := by omega
      subst hn0
      have hn0 : news = [] := List.eq_nil_of_length_eq_zero (by simpa using ln)
      subst hn0
      have hn' : (Builtin.firstCells i.size 0 (.slice B 0 c2)).run P w = .ok [].toArray w := run_firstCells' (by simp) (.inl rfl)
      refine ⟨.slice A 0 c, w, ?_, .inl ⟨rfl, rfl, hc0, by rw [hc0], rfl⟩⟩
      cases A with
      | none => exact run_append_in ht hi hn' (by omega) (fun b o e => by simp at e) (.inl ⟨rfl, rfl⟩)
      | some ad =>
        subst hc0
        have : ∀ q, (storeCells q []).run P w = .ok () w := fun q => rfl
        simp [Builtin.append_, run_underlying ht, sizeOf, typeInfo, hi, Builtin.lenOf, hn', this]
    · have hcle : (n + m) * sz ≤ olds.length + post.length := by rw [hcap]; exact Nat.mul_le_mul_right _ (by omega)
      have hpost : news.length ≤ post.length := by rw [lo, Nat.add_mul] at hcle; omega
      have hst := run_store_block (P := P) (w := w) (b := b) (o := pre.length + n * i.size) (T := e) (pre := pre ++ olds) (old := post.take news.length) (post := post.drop news.length) (news := news)
        (by rw [hh]; simp) (by simp [lo, hsz]) (by simp; omega) hone
      have hn' : (Builtin.firstCells i.size m (.slice B m c2)).run P w = .ok news.toArray w := run_firstCells' (by rw [ln, hsz]) hcn
      have hrun := run_append_in (w' := w.setRow b (pre ++ olds ++ news ++ post.drop news.length).toArray) (ty := ty) ht hi (A := some ⟨b, pre.length, none⟩) (n := n) (c := c) hn' hroom
        (fun b o e => by cases e; exact hst) (.inr ⟨_, _, rfl⟩)
      exact ⟨_, _, hrun, .inr (.inl ⟨hroom, rfl, hh, hcap, hcc, hpost, rfl, rfl⟩)⟩
  · have hco' : n = 0 ∨ ∃ b o, A = some ⟨b, o, none⟩ ∧ cellsAt w.drew b o olds := by
      rcases hA with ⟨hn0, _⟩ | ⟨rfl, hh, _, _⟩
      · exact .inl hn0
      · exact .inr ⟨b, pre.length, rfl, cellsAt_block hh⟩
    have hcn' : m = 0 ∨ ∃ b o, B = some ⟨b, o, none⟩ ∧ cellsAt w.drew b o news := hcn
    have ho' := run_firstCells' (P := P) (w := w.drew) (A := A) (len := n) (c := c) (size := i.size) (news := olds) (m := n) (by rw [lo, hsz]) hco'
    have hn' := run_firstCells' (P := P) (w := w.drew) (A := B) (len := m) (c := c2) (size := i.size) (news := news) (m := m) (by rw [ln, hsz]) hcn'
    have hrun := run_append_gen (ty := ty) ht hi hzv ho' hn' (by omega) (by omega) (growslice_fits (by omega) hb1)
    have hge := grownCap_ge w (n + m) c e
    refine ⟨_, _, hrun, .inr (.inr ⟨grownCap w (n + m) c e, (Builtin.zeroCells zv.cells (grownCap w (n + m) c e - (n + m))).toList, hge, ?_, rfl, ?_⟩)⟩
    · simp only [lo, ln, Array.length_toList, size_zeroCells, hzl, ← Nat.add_mul]
      congr 1; omega
    · congr 2; apply Array.ext'; simp

theorem inner_core (h : Rel C s β a w) {t ty e : TypeId} {i : TypeInfo} {z : List AV} (ht : P.underlying t = some (.slice e)) (hi : P.info? e = some i) (hz : azero P e = some z) {nm p m : Nat} (hpl : hpool s.heap nm = some p)
    {T : TypeId} {kh ki : K} {xs : List (kh.den × List ki.den)} (ho : hat s.heap p = .dvec T e kh ki xs none) (hsz : i.size = ki.size) (hzl : z.length = ki.size) {v : Value} (hx : (AV.dv nm p m).R w (C.N s.heap β w) (C.fresh s.heap β w) β v)
    {B : Option Addr} {c2 : Nat} {ys : List ki.den} {M : Nat → Prop} {news : List Value} (hrn : rows (ki.rd w M) ys news)
    (hcn : ys.length = 0 ∨ ∃ b o, B = some ⟨b, o, none⟩ ∧ cellsAt w b o news) (hb1 : ((ith xs m).length + ys.length) * i.bytes ≤ 140737488355328) (hb2 : (ith xs m).length + ys.length ≤ 140737488355328) :
    ∃ v' w' r', (Builtin.append_ #[t, t] ty #[v, .slice B ys.length c2]).run P w = .ok v' w' ∧
      Rel C { s with heap := (hkill s.heap [p] ++ [(true, AObj.dvec T e kh ki (setIn xs m (ith xs m ++ ys)) (some m))]).set nm (true, .hnd s.heap.length) } (β ++ [r']) a w' ∧
      (AV.dv nm s.heap.length m).R w' (fun _ => True) (fun _ => True) (β ++ [r']) v' := by
  obtain ⟨rn, rp, ri, A, c, hn, hr, him, rfl, hc, hsl⟩ := hx
  obtain ⟨f, r0, rp0, T1, T1', kh1, ki1, xs1, hole1, k1, k2, k3, k4, k5, k6, k7, k8, k9, k10, kR⟩ := h.pool hpl
  rw [ho] at k1; cases k1
  rw [hr] at k4; cases k4
  rw [hn] at k3; cases k3
  obtain ⟨q1, q2, q3, q4, q5, q6, q7, q8⟩ := kR
  obtain ⟨hmx, _, _, hrow⟩ := h.inner ho hr him
  obtain ⟨g1, g2, g3, g4⟩ := hrow
  obtain ⟨i', zv, hi', hzv, rfl⟩ := azero_some hz
  rw [hi] at hi'; cases hi'
  have hzs : zv.cells.size = ki.size := by rw [← constTV_len zv, hzl]
  have ln := rows.len (fun x c => K.rd_len w _ ki x c) hrn
  have hone := rows.one hrn
  have hoccp : ∀ b ∈ rp.deep, b < w.heap.size := fun b hb => (h.occ p _ rp b k2 hr hb).1
  obtain ⟨n1, n2, n3⟩ := List.nodup_append.1 (by rw [deep_eq] at q6; exact q6)
  -- what is to be shown of the new row
  have fin : ∀ (v' : Value) (w' : World) (ri' : IB), w'.os = w.os → w'.tape = w.tape → w'.output = w.output → w.heap.size ≤ w'.heap.size → w.drawn ≤ w'.drawn →
      (∀ b, b < w.heap.size → (ri.real = true → b ≠ ri.blk) → w'.heap[b]? = w.heap[b]?) → ri'.row w' e ki (ith xs m ++ ys) →
      (ri'.real = true → (ri.real = true ∧ ri'.blk = ri.blk) ∨ (w.heap.size ≤ ri'.blk ∧ ri'.blk < w'.heap.size)) →
      (∃ A c, v' = .slice A ri'.n c ∧ ri'.n ≤ c ∧ ri'.slice A c) →
      ∃ r', Rel C { s with heap := (hkill s.heap [p] ++ [(true, AObj.dvec T e kh ki (setIn xs m (ith xs m ++ ys)) (some m))]).set nm (true, .hnd s.heap.length) } (β ++ [r']) a w' ∧
        (AV.dv nm s.heap.length m).R w' (fun _ => True) (fun _ => True) (β ++ [r']) v' := by
    intro v' w' ri' f1 f2 f3 f4 f4' f5 hrow' hreal' hv'
    have hml : m < rp.inn.length := (List.getElem?_eq_some_iff.1 him).1
    have hd' : ∀ b, b ∈ deepI (rp.inn.set m ri') → b ∈ deepI rp.inn ∨ (w.heap.size ≤ b ∧ b < w'.heap.size) := fun b hb => by
      rcases deepI_set_mem hb with hb | ⟨hre, rfl⟩
      · exact .inl hb
      · rcases hreal' hre with ⟨e1, e2⟩ | e1
        · exact .inl (e2 ▸ deepI_mem him e1)
        · exact .inr e1
    have hrel := deep_move h (w' := w') [p] (fun l hl => by simp at hl; subst hl; exact ⟨_, k2, by simp⟩) (.dvec T e kh ki (setIn xs m (ith xs m ++ ys)) (some m)) { rp with inn := rp.inn.set m ri' } f1 f2 f3 f4
      (fun b hb hx => f5 b hb (fun hre e => hx p _ rp (by simp) k2 hr (e ▸ deep_inn (List.mem_of_getElem? him) hre)))
      (fun b hb => by
        have hb : b ∈ (if rp.real then [rp.blk] else []) ++ deepI (rp.inn.set m ri') := hb
        rcases List.mem_append.1 hb with hb | hb
        · have : b ∈ rp.deep := List.mem_append_left _ hb
          exact ⟨by have := hoccp b this; omega, .inr ⟨p, _, rp, by simp, k2, hr, this⟩⟩
        · rcases hd' b hb with hb | ⟨e1, e2⟩
          · have : b ∈ rp.deep := List.mem_append_right _ hb
            exact ⟨by have := hoccp b this; omega, .inr ⟨p, _, rp, by simp, k2, hr, this⟩⟩
          · exact ⟨e2, .inl e1⟩)
      (fun N Nf => by
        refine ⟨by rw [setIn_len]; exact q1, q2, q3, q4, q5, ?_, rows_turn q5 q7 hrow' (fun i r hne hir hre => f5 _ (hoccp _ (deep_inn (List.mem_of_getElem? hir) hre)) (fun hre' e => hne (deepI_apart n2 hir him hre hre' e))), ?_⟩
        · rw [deep_eq]
          refine List.nodup_append.2 ⟨n1, deepI_set_nodup n2 him (fun hre hm => ?_), fun y hy z hz e => ?_⟩
          · rcases hreal' hre with e1 | e1
            · exact e1
            · have := hoccp _ (List.mem_append_right _ hm); omega
          · subst e
            rcases hd' y hz with hz | ⟨e1, _⟩
            · exact n3 y hy y hz rfl
            · have := hoccp y (List.mem_append_left _ hy); omega
        · show (if rp.real = true then _ else rp.n = 0)
          by_cases hro : rp.real = true
          · simp only [hro, if_true] at q8 ⊢
            obtain ⟨pre0, mid0, post0, j1, j2, j3, j4⟩ := q8
            refine ⟨pre0, mid0, post0, ?_, j2, ?_, j4⟩
            · rw [f5 rp.blk (hoccp _ (deep_out hro)) (fun hre e => n3 rp.blk (by simp [hro]) ri.blk (deepI_mem him hre) e)]
              exact j1
            · have := drows_hole (hl := 0) (r' := ri') (m := m) j3
              rw [Nat.zero_add] at this
              exact drows_hd (setIn_hd _ _ _) (drows_any q4 this)
          · simp only [hro] at q8 ⊢
            exact q8) f4'
    have hnew : (hkill s.heap [p] ++ [(true, AObj.dvec T e kh ki (setIn xs m (ith xs m ++ ys)) (some m))])[nm]? = some (if nm = p then (true, AObj.dead) else s.heap[nm]'(by
        have := (List.getElem?_eq_some_iff.1 hn).1; rw [h.bsize] at this; exact this)) := by
      have hnl : nm < s.heap.length := by have := (List.getElem?_eq_some_iff.1 hn).1; rw [h.bsize] at this; exact this
      rw [List.getElem?_append_left (by rw [hkill_len]; exact hnl)]
      by_cases e : nm = p
      · rw [if_pos e, hkill_mem _ _ _ (by simp [e]) hnl]
      · rw [if_neg e, hkill_ne _ _ _ (by simp [e]), List.getElem?_eq_getElem hnl]
    have hr' : (β ++ [({ rp with inn := rp.inn.set m ri' } : Bl)])[s.heap.length]? = some { rp with inn := rp.inn.set m ri' } := by rw [← h.bsize]; simp
    refine ⟨{ rp with inn := rp.inn.set m ri' }, ?_, ?_⟩
    · have := hrel.upd (w' := w') nm _ (.hnd s.heap.length) rn hnew (get_app hn) rfl rfl rfl (Nat.le_refl _) (fun _ _ _ => rfl) ?_ (fun b hb => by simp [AObj.occ] at hb)
        (fun _ _ _ _ => ⟨_, hr', k5, k6, k7, k8, k9, k10⟩)
      · exact this.1
      · by_cases e : nm = p
        · rw [if_pos e]; simp
        · rw [if_neg e]
          unfold hpool at hpl
          split at hpl
          · simp only [Option.some.injEq] at hpl; exact absurd hpl e
          · rename_i hob
            obtain ⟨f', hf'⟩ := hat_eq hob (by simp)
            rw [List.getElem?_eq_getElem (by have := (List.getElem?_eq_some_iff.1 hf').1; exact this)] at hf'
            simp only [Option.some.injEq] at hf'
            rw [hf']; simp
          · simp at hpl
    · obtain ⟨A', c', e1, e2, e3⟩ := hv'
      exact ⟨rn, _, ri', A', c', get_app hn, hr', by simp [hml], e1, e2, e3⟩
  -- the three ways
  have hA : ∃ pre olds post, rows (ki.rd w (fun _ => False)) (ith xs m) olds ∧ ((ri.n = 0 ∧ c = 0) ∨ (ri.real = true ∧ A = some ⟨ri.blk, pre.length, none⟩ ∧ pre.length = ri.base ∧ w.heap[ri.blk]? = some (.cells (pre ++ olds ++ post).toArray e (0, 0)) ∧ olds.length + post.length = ri.cap * ki.size ∧ c ≤ ri.cap)) := by
    rcases hsl with ⟨hre, rfl, hcc⟩ | ⟨h0, h1⟩
    · simp only [hre, if_true] at g4
      obtain ⟨pre, mid, post, hh, hp, hm, hcap⟩ := g4
      exact ⟨pre, mid, post, hm, .inr ⟨hre, by rw [hp], hp, hh, by rw [hcap, g2], hcc⟩⟩
    · have h0' : ith xs m = [] := List.eq_nil_of_length_eq_zero (by omega)
      exact ⟨[], [], [], by rw [h0']; rfl, .inl ⟨h0, h1⟩⟩
  obtain ⟨pre, olds, post, hro, hA⟩ := hA
  have lo := rows.len (fun x c => K.rd_len w _ ki x c) hro
  have hAll : ∀ w'' : World, rows (ki.rd w'' (fun _ => False)) (ith xs m ++ ys) (olds ++ news) := fun w'' =>
    (hro.mono fun x y => K.rd_flat ki _ _ q5).app (hrn.mono fun x y => K.rd_flat ki _ _ q5)
  obtain ⟨v', w', hrun, hcase⟩ := append_raw (P := P) (w := w) (ty := ty) ht hi hzv hsz hzs (A := A) (B := B) (n := ri.n) (c := c) (m := ys.length) (c2 := c2) (b := ri.blk) (cap := ri.cap) (pre := pre) (olds := olds) (post := post) (news := news)
    (by rw [lo, g1]) ln hone hc (hA.imp id fun ⟨_, e2, _, e3, e4, e5⟩ => ⟨e2, e3, e4, e5⟩) hcn (by rw [g1]; exact hb1) (by rw [g1]; exact hb2)
  refine ⟨v', w', ?_⟩
  rcases hcase with ⟨c1, c2', c3, rfl, rfl⟩ | ⟨c1, c2', c3, c4, c5, c6, rfl, rfl⟩ | ⟨cap', zs, c1, c2', rfl, rfl⟩
  · have h0 : ith xs m ++ ys = [] := List.eq_nil_of_length_eq_zero (by rw [List.length_append]; omega)
    obtain ⟨r', j1, j2⟩ := fin (.slice A 0 0) w' ⟨0, 0, ki.size, 0, 0, false⟩ rfl rfl rfl (Nat.le_refl _) (Nat.le_refl _) (fun _ _ _ => rfl) ⟨by rw [h0]; rfl, rfl, Nat.le_refl _, rfl⟩ (fun e => by simp at e) ⟨A, 0, rfl, Nat.le_refl _, .inr ⟨rfl, rfl⟩⟩
    exact ⟨r', hrun, j1, j2⟩
  · rcases hA with ⟨e1, e2⟩ | ⟨hre, e2, e3, e4, e5, e6⟩
    · -- no room, and nothing comes
      have hy0 : ys.length = 0 := by omega
      have h0 : ith xs m ++ ys = [] := List.eq_nil_of_length_eq_zero (by rw [List.length_append]; omega)
      have hn0 : news = [] := List.eq_nil_of_length_eq_zero (by rw [ln, hy0]; simp)
      have ho0 : olds = [] := List.eq_nil_of_length_eq_zero (by rw [lo, ← g1, e1]; simp)
      subst hn0 ho0
      have hw : w.setRow ri.blk (pre ++ [] ++ [] ++ post.drop ([] : List Value).length).toArray = w := by
        have : w.heap[ri.blk]? = some (.cells (pre ++ [] ++ [] ++ post.drop ([] : List Value).length).toArray e (0, 0)) := by rw [c3]; simp
        exact setRow_self w _ _ _ _ this
      rw [hw] at hrun ⊢
      obtain ⟨r', j1, j2⟩ := fin (.slice A (ri.n + ys.length) c) w ⟨0, 0, ki.size, 0, 0, false⟩ rfl rfl rfl (Nat.le_refl _) (Nat.le_refl _) (fun _ _ _ => rfl) ⟨by rw [h0]; rfl, rfl, Nat.le_refl _, rfl⟩ (fun e => by simp at e) ⟨A, c, by rw [e1, hy0], Nat.zero_le _, .inr ⟨rfl, e2⟩⟩
      exact ⟨r', hrun, j1, j2⟩
    · obtain ⟨f1, f2, f3, f4, f5⟩ := setRow_facts w ri.blk (pre ++ olds ++ news ++ post.drop news.length).toArray
      obtain ⟨r', j1, j2⟩ := fin (.slice A (ri.n + ys.length) c) (w.setRow ri.blk (pre ++ olds ++ news ++ post.drop news.length).toArray) ⟨ri.blk, pre.length, ki.size, ri.n + ys.length, ri.cap, true⟩ f1 f2 f3 (by omega) (Nat.le_refl _)
        (fun b hb hx => f5 b (hx hre))
        ⟨by simp [g1], rfl, by show ri.n + ys.length ≤ ri.cap; omega, by
          simp only [if_true]
          exact ⟨pre, olds ++ news, post.drop news.length, by rw [setRow_same c3]; simp, rfl, hAll _, by simp; omega⟩⟩
        (fun _ => .inl ⟨hre, rfl⟩) ⟨A, c, rfl, c1, .inl ⟨rfl, e2, e6⟩⟩
      exact ⟨r', hrun, j1, j2⟩
  · have hG : Grew w (w.drew.alloc (.cells ([] ++ (olds ++ news) ++ zs).toArray e)) := (Grew.drew w).trans (Grew.alloc w.drew _)
    have hnew : (w.drew.alloc (.cells ([] ++ (olds ++ news) ++ zs).toArray e)).heap[w.heap.size]? = some (.cells ([] ++ (olds ++ news) ++ zs).toArray e) := heap_alloc_new w.drew _
    obtain ⟨r', j1, j2⟩ := fin _ _ ⟨w.heap.size, 0, ki.size, ri.n + ys.length, cap', true⟩ hG.os hG.tape hG.output hG.size hG.drawn (fun b hb _ => hG.block b hb)
      ⟨by simp [g1], rfl, c1, by
        simp only [if_true]
        exact ⟨[], olds ++ news, zs, hnew, rfl, hAll _, by simp; omega⟩⟩
      (fun _ => .inr ⟨Nat.le_refl _, by simp⟩) ⟨_, cap', rfl, c1, .inl ⟨rfl, rfl, Nat.le_refl _⟩⟩
    exact ⟨r', hrun, j1, j2⟩
end
end Go.Proofs.AM
end

section
namespace Go.Proofs.AM
open Go Go.RowKit

theorem drows_snoc {w : World} {kh ki : K} {x1 : kh.den} {ys : List ki.den} {rim : IB} {vh : List Value} {vc : Value} (hh : kh.rd w (fun _ => False) x1 vh) (hc : ∃ A c, vc = .slice A rim.n c ∧ rim.n ≤ c ∧ rim.slice A c) :
    ∀ {j : Nat} {xs : List (kh.den × List ki.den)} {rs : List IB} {cs : List Value}, drows w kh ki none j xs rs cs → drows w kh ki none j (xs ++ [(x1, ys)]) (rs ++ [rim]) (cs ++ (vh ++ [vc]))
  | _, [], [], _, h => by
    have h : _ = _ := h
    subst h
    exact ⟨vh, vc, [], rfl, hh, .inr hc, rfl⟩
  | j, x :: xs, ri :: rs, _, ⟨ch, v, cs', e0, h1, h2, h3⟩ => ⟨ch, v, cs' ++ (vh ++ [vc]), by rw [e0]; simp, h1, h2, drows_snoc hh hc h3⟩
  | _, [], _ :: _, _, h => h.elim
  | _, _ :: _, [], _, h => h.elim

section
variable {P : Program} {C : Cx} {s : AS} {β : List Bl} {a : Act} {w : World}

def OccD (s : AS) (β : List Bl) (K : List Nat) (Q : AObj → Prop) (bl : Nat) : Prop := ∃ m o0 rr, m ∈ K ∧ s.heap[m]? = some o0 ∧ β[m]? = some rr ∧ bl ∈ o0.2.occ rr ∧ Q o0.2

def isDvec : AObj → Prop
  | .dvec _ _ _ _ _ _ => True
  | _ => False
def isVec : AObj → Prop
  | .vec _ _ _ _ => True
  | _ => False

theorem deepX_sound (h : Rel C s β a w) {e T' : TypeId} {kh ki : K} {x : AV} {v : Value} (hx : x.R w (C.N s.heap β w) (C.fresh s.heap β w) β v) {xs : List (kh.den × List ki.den)} {T1 : List Nat} (ex : adeepX s.heap e T' kh ki x = some (xs, T1)) :
    ∃ A c inn0 b0 pre olds post cap, v = .slice A xs.length c ∧ xs.length ≤ c ∧ drows w kh ki none 0 xs inn0 olds ∧ All2 (fun (ri : IB) (x : kh.den × List ki.den) => ri.row w T' ki x.2) inn0 xs ∧
      ((xs.length = 0 ∧ c = 0) ∨ (A = some ⟨b0, pre.length, none⟩ ∧ w.heap[b0]? = some (.cells (pre ++ olds ++ post).toArray e (0, 0)) ∧ olds.length + post.length = cap * (kh.size + 1) ∧ c ≤ cap ∧ OccD s β T1 isDvec b0 ∧ b0 ∉ deepI inn0)) ∧
      (∀ bl ∈ deepI inn0, OccD s β T1 isDvec bl) ∧ (deepI inn0).Nodup ∧ ∀ l ∈ T1, ∃ o, s.heap[l]? = some o ∧ o.2 ≠ .mark := by
  unfold adeepX at ex
  split at ex
  · simp only [Option.some.injEq, Prod.mk.injEq] at ex
    obtain ⟨rfl, rfl⟩ := ex
    have hx : v = _ := hx
    exact ⟨none, 0, [], 0, [], [], [], 0, hx, Nat.le_refl _, rfl, trivial, .inl ⟨rfl, rfl⟩, by simp [deepI], by simp [deepI], by simp⟩
  · rename_i nm n sz
    split at ex
    rotate_left
    · simp at ex
    rename_i p hpl
    split at ex
    rotate_left
    · simp at ex
    rename_i T T1' kh1 ki1 xs1 hob
    split at ex
    rotate_left
    · simp at ex
    rename_i hT
    obtain ⟨rfl, rfl⟩ := hT
    split at ex
    rotate_left
    · simp at ex
    rename_i hk1
    subst hk1
    split at ex
    rotate_left
    · simp at ex
    rename_i hk2
    subst hk2
    simp only [Option.some.injEq, Prod.mk.injEq] at ex
    obtain ⟨rfl, rfl⟩ := ex
    obtain ⟨rr, A, c, hr, hn, hz, rfl, hc, hsl⟩ := hx
    obtain ⟨f, r0, rp, Ta, Tb, kha, kia, xsa, holea, k1, k2, k3, k4, k5, k6, k7, k8, k9, k10, kR⟩ := h.pool hpl
    rw [hob] at k1; cases k1
    rw [hr] at k3; cases k3
    obtain ⟨q1, q2, q3, q4, q5, q6, q7, q8⟩ := kR
    have hxn : n = xs1.length := by omega
    subst hxn
    obtain ⟨n1, n2, n3⟩ := List.nodup_append.1 (by rw [deep_eq] at q6; exact q6)
    have hocc : ∀ bl ∈ rp.deep, OccD s β [nm, p] isDvec bl := fun bl hb => ⟨p, _, rp, by simp, k2, k4, hb, trivial⟩
    have hK : ∀ l ∈ [nm, p], ∃ o, s.heap[l]? = some o ∧ o.2 ≠ .mark := by
      intro l hl
      simp only [List.mem_cons, List.not_mem_nil, or_false] at hl
      rcases hl with rfl | rfl
      · unfold hpool at hpl
        split at hpl
        · rename_i hq
          obtain ⟨g, hg⟩ := hat_eq hq (by simp)
          exact ⟨_, hg, by simp⟩
        · rename_i hq
          obtain ⟨g, hg⟩ := hat_eq hq (by simp)
          exact ⟨_, hg, by simp⟩
        · simp at hpl
      · exact ⟨_, k2, by simp⟩
    rcases hsl with ⟨hreal, rfl, hcc⟩ | ⟨h0, h1⟩
    · rw [← k10] at hreal
      simp only [hreal, if_true] at q8
      obtain ⟨pre, mid, post, hh, hp, hd, hcap⟩ := q8
      refine ⟨_, c, rp.inn, rp.blk, pre, mid, post, rp.cap, rfl, hc, hd, q7, .inr ⟨by simp [Bl.addr, hp, k5, k6], hh, by rw [hcap, q2], by omega, hocc _ (deep_out hreal), fun hm => n3 rp.blk (by simp [hreal]) _ hm rfl⟩, fun bl hb => hocc bl (List.mem_append_right _ hb), n2, hK⟩
    · have hx0 : xs1 = [] := List.eq_nil_of_length_eq_zero h0
      subst hx0
      have hi0 : rp.inn = [] := List.eq_nil_of_length_eq_zero (by have := q7.len; simpa using this)
      exact ⟨A, c, [], 0, [], [], [], 0, rfl, hc, rfl, trivial, .inl ⟨rfl, h1⟩, by simp [deepI], by simp [deepI], hK⟩
  · simp at ex

theorem deepE_sound (h : Rel C s β a w) {T' : TypeId} {kh ki : K} (f1 : kh.flat = true) (f2 : ki.flat = true) {cs : List AV} {vs : List Value} (hcs : All2 (AV.R w (C.N s.heap β w) (C.fresh s.heap β w) β) cs vs) {x1 : kh.den} {ys : List ki.den} {T2 : List Nat} (ee : adeepE s.heap kh ki T' cs = some (x1, ys, T2)) :
    ∃ (vh : List Value) (vc : Value) (rim : IB), vs = vh ++ [vc] ∧ kh.rd w (fun _ => False) x1 vh ∧ (∃ A c, vc = .slice A rim.n c ∧ rim.n ≤ c ∧ rim.slice A c) ∧ rim.row w T' ki ys ∧ (rim.real = true → OccD s β T2 isVec rim.blk) ∧ ∀ l ∈ T2, ∃ o, s.heap[l]? = some o ∧ o.2 ≠ .mark := by
  have split : ∀ (c : AV), cs.drop kh.size = [c] → ∀ y f, K.of s.heap false kh (cs.take kh.size) = some (y, f) → ∃ vh vc, vs = vh ++ [vc] ∧ kh.rd w (fun _ => False) y vh ∧ c.R w (C.N s.heap β w) (C.fresh s.heap β w) β vc := by
    intro c hc y f hk
    have e0 : cs = cs.take kh.size ++ [c] := by rw [← hc, List.take_append_drop]
    rw [e0] at hcs
    obtain ⟨m1, m2, rfl, g1, g2⟩ := All2.of_app hcs
    match m2, g2 with
    | [vc], g2 => exact ⟨m1, vc, rfl, K.rd_flat kh _ _ f1 (of_sound h g1 hk), g2.1⟩
  unfold adeepE at ee
  split at ee
  · rename_i y f hk hd
    simp only [Option.some.injEq, Prod.mk.injEq] at ee
    obtain ⟨rfl, rfl, rfl⟩ := ee
    obtain ⟨vh, vc, rfl, g1, g2⟩ := split _ hd _ _ hk
    have g2 : vc = _ := g2
    exact ⟨vh, vc, ⟨0, 0, ki.size, 0, 0, false⟩, rfl, g1, ⟨none, 0, g2, Nat.le_refl _, .inr ⟨rfl, rfl⟩⟩, ⟨rfl, rfl, Nat.le_refl _, rfl⟩, by simp, by simp⟩
  · rename_i y f m hk hd
    split at ee
    rotate_left
    · simp at ee
    rename_i Ta q ys1 fr hob
    split at ee
    rotate_left
    · simp at ee
    rename_i hT
    subst hT
    split at ee
    rotate_left
    · simp at ee
    rename_i hq
    subst hq
    simp only [Option.some.injEq, Prod.mk.injEq] at ee
    obtain ⟨rfl, rfl, rfl⟩ := ee
    obtain ⟨vh, vc, rfl, g1, rr, A, c, g2, g3, g4, g5⟩ := split _ hd _ _ hk
    obtain ⟨g, b, hf, hb, k1, k2, k3, k4⟩ := h.obj hob (by simp)
    rw [g2] at hb; cases hb
    refine ⟨vh, vc, ⟨rr.blk, rr.base, rr.sz, rr.n, rr.cap, rr.real⟩, rfl, g1, ⟨A, c, g3, g4, ?_⟩, ⟨k1, k2, k3, ?_⟩, fun hre => ⟨m, _, rr, by simp, hf, g2, ?_, trivial⟩, ?_⟩
    · rcases g5 with ⟨e1, e2, e3⟩ | e1
      · exact .inl ⟨e1, by simpa [Bl.addr] using e2, by simpa using e3⟩
      · exact .inr e1
    · by_cases hre : rr.real = true
      · simp only [hre, if_true] at k4 ⊢
        obtain ⟨pre, mid, post, e1, e2, e3, e4⟩ := k4
        exact ⟨pre, mid, post, e1, e2, rows_flat f2 e3, e4⟩
      · simp only [hre] at k4 ⊢
        exact k4
    · have hre : rr.real = true := hre
      simp [AObj.occ, hre]
    · intro l hl
      simp only [List.mem_singleton] at hl
      subst hl
      exact ⟨_, hf, by simp⟩
  · simp at ee

theorem row_core (h : Rel C s β a w) {t ty e : TypeId} {i : TypeInfo} {z : List AV} (ht : P.underlying t = some (.slice e)) (hi : P.info? e = some i) (hz : azero P e = some z) {T' : TypeId} {kh ki : K} (f1 : kh.flat = true) (f2 : ki.flat = true)
    (hsz : i.size = kh.size + 1) (hzl : z.length = kh.size + 1) {x : AV} {v : Value} (hx : x.R w (C.N s.heap β w) (C.fresh s.heap β w) β v) {xs : List (kh.den × List ki.den)} {T1 : List Nat} (ex : adeepX s.heap e T' kh ki x = some (xs, T1))
    {b : Nat} {cs : List AV} (hb : hat s.heap b = .box e cs) {x1 : kh.den} {ys : List ki.den} {T2 : List Nat} (ee : adeepE s.heap kh ki T' cs = some (x1, ys, T2)) {vb : Value} (hvb : (AV.vw b 0 1).R w (C.N s.heap β w) (C.fresh s.heap β w) β vb)
    (hb1 : (xs.length + 1) * i.bytes ≤ 140737488355328) (hb2 : xs.length + 1 ≤ 140737488355328) :
    ∃ v' w' r', (Builtin.append_ #[t, t] ty #[v, vb]).run P w = .ok v' w' ∧
      Rel C { s with heap := hkill s.heap (b :: (T2 ++ T1)) ++ [(true, .dvec e T' kh ki (xs ++ [(x1, ys)]) none)] } (β ++ [r']) a w' ∧
      (AV.hv s.heap.length (xs.length + 1) (kh.size + 1)).R w' (fun _ => True) (fun _ => True) (β ++ [r']) v' := by
  obtain ⟨A, c, inn0, b0, pre, olds, post, cap, rfl, hc, hd, hrows, hA, hoccI, hnd, hK1⟩ := deepX_sound h hx ex
  obtain ⟨fb, rb, hfb, hrb, vs, hhb, hbz, hcs⟩ := h.obj hb (by simp)
  obtain ⟨vh, vc, rim, rfl, hvh, hvc, hrim, hoccM, hK2⟩ := deepE_sound h f1 f2 hcs ee
  obtain ⟨rr, Ab, cb, hr, rfl, hcb, _, hslb⟩ := hvb
  rw [hrb] at hr; cases hr
  obtain ⟨i', zv, hi', hzv, rfl⟩ := azero_some hz
  rw [hi] at hi'; cases hi'
  have hzs : zv.cells.size = kh.size + 1 := by rw [← constTV_len zv, hzl]
  obtain ⟨lo, _⟩ := drows_len hd
  have lh := K.rd_len w _ kh _ _ hvh
  have hone : ∀ u ∈ vh ++ [vc], u.oneCell' = true := by
    intro u hu
    rcases List.mem_append.1 hu with hu | hu
    · exact K.rd_one kh _ _ hvh u hu
    · simp only [List.mem_singleton] at hu
      subst hu
      obtain ⟨A, c, rfl, _⟩ := hvc
      rfl
  have hcn : 1 = 0 ∨ ∃ b o, Ab = some ⟨b, o, none⟩ ∧ cellsAt w b o (vh ++ [vc]) := by
    right
    rcases hslb with ⟨_, rfl, _⟩ | ⟨h0, _⟩
    · refine ⟨rb.blk, rb.base, by simp [Bl.addr], ?_⟩
      rw [hbz]; exact cellsAt_block (pre := []) (post := []) (by simpa using hhb)
    · omega
  have lt : ∀ {K : List Nat} {Q : AObj → Prop} {bl : Nat}, OccD s β K Q bl → bl < w.heap.size := by
    rintro K Q bl ⟨m, o0, rr, _, g1, g2, g3, _⟩
    exact (h.occ m o0 rr bl g1 g2 g3).1
  have apart : ∀ {K K' : List Nat} {bl : Nat}, OccD s β K isDvec bl → OccD s β K' isVec bl → False := by
    rintro K K' bl ⟨m, o0, rr, _, g1, g2, g3, g4⟩ ⟨m', o0', rr', _, g1', g2', g3', g4'⟩
    have := h.apart m m' o0 o0' rr rr' bl g1 g2 g1' g2' g3 g3'
    subst this
    rw [g1] at g1'; cases g1'
    revert g4 g4'
    cases o0.2 <;> simp [isDvec, isVec]
  have hK : ∀ l ∈ b :: (T2 ++ T1), ∃ o, s.heap[l]? = some o ∧ o.2 ≠ .mark := by
    intro l hl
    rcases List.mem_cons.1 hl with rfl | hl
    · exact ⟨_, hfb, by simp⟩
    · rcases List.mem_append.1 hl with hl | hl
      · exact hK2 l hl
      · exact hK1 l hl
  have fin : ∀ (w' : World) (bn c' cap' : Nat) (pren postn : List Value), w'.os = w.os → w'.tape = w.tape → w'.output = w.output → w.heap.size ≤ w'.heap.size → w.drawn ≤ w'.drawn →
      (∀ b, b < w.heap.size → (bn < w.heap.size → b ≠ bn) → w'.heap[b]? = w.heap[b]?) → ((bn < w.heap.size ∧ OccD s β T1 isDvec bn ∧ bn ∉ deepI inn0) ∨ (w.heap.size ≤ bn ∧ bn < w'.heap.size)) →
      w'.heap[bn]? = some (.cells (pren ++ (olds ++ (vh ++ [vc])) ++ postn).toArray e (0, 0)) → (olds ++ (vh ++ [vc])).length + postn.length = cap' * (kh.size + 1) → xs.length + 1 ≤ cap' → xs.length + 1 ≤ c' → c' ≤ cap' →
      ∃ r', Rel C { s with heap := hkill s.heap (b :: (T2 ++ T1)) ++ [(true, .dvec e T' kh ki (xs ++ [(x1, ys)]) none)] } (β ++ [r']) a w' ∧
        (AV.hv s.heap.length (xs.length + 1) (kh.size + 1)).R w' (fun _ => True) (fun _ => True) (β ++ [r']) (.slice (some ⟨bn, pren.length, none⟩) (xs.length + 1) c') := by
    intro w' bn c' cap' pren postn g1 g2 g3 g4 g5 g6 g7 g8 g9 g10 g11 g12
    have ho : ∀ bl, bl ∈ deepI (inn0 ++ [rim]) → OccD s β T1 isDvec bl ∨ (rim.real = true ∧ bl = rim.blk ∧ OccD s β T2 isVec bl) := by
      intro bl hb
      rw [deepI_append] at hb
      rcases List.mem_append.1 hb with hb | hb
      · exact .inl (hoccI bl hb)
      · cases hre : rim.real with
        | false => simp [deepI, hre] at hb
        | true =>
          simp [deepI, hre] at hb
          subst hb
          exact .inr ⟨rfl, rfl, hoccM hre⟩
    have hrel := deep_move h (w' := w') (b :: (T2 ++ T1)) hK (.dvec e T' kh ki (xs ++ [(x1, ys)]) none) ⟨bn, pren.length, kh.size + 1, xs.length + 1, cap', true, none, inn0 ++ [rim]⟩ g1 g2 g3 g4
      (fun bl hbl hx => g6 bl hbl fun hlt e => by
        subst e
        rcases g7 with ⟨_, ⟨m, o0, rr, j1, j2, j3, j4, _⟩, _⟩ | ⟨j, _⟩
        · exact hx m o0 rr (List.mem_cons_of_mem _ (List.mem_append_right _ j1)) j2 j3 j4
        · omega)
      (fun bl hbl => by
        have hbl : bl ∈ [bn] ++ deepI (inn0 ++ [rim]) := hbl
        rcases List.mem_append.1 hbl with hbl | hbl
        · simp only [List.mem_singleton] at hbl
          subst hbl
          rcases g7 with ⟨j0, ⟨m, o0, rr, j1, j2, j3, j4, _⟩, _⟩ | ⟨j, j'⟩
          · exact ⟨by omega, .inr ⟨m, o0, rr, List.mem_cons_of_mem _ (List.mem_append_right _ j1), j2, j3, j4⟩⟩
          · exact ⟨j', .inl j⟩
        · rcases ho bl hbl with hh | ⟨_, _, hh⟩
          · have := lt hh
            obtain ⟨m, o0, rr, j1, j2, j3, j4, _⟩ := hh
            exact ⟨by omega, .inr ⟨m, o0, rr, List.mem_cons_of_mem _ (List.mem_append_right _ j1), j2, j3, j4⟩⟩
          · have := lt hh
            obtain ⟨m, o0, rr, j1, j2, j3, j4, _⟩ := hh
            exact ⟨by omega, .inr ⟨m, o0, rr, List.mem_cons_of_mem _ (List.mem_append_left _ j1), j2, j3, j4⟩⟩)
      (fun N Nf => by
        have hsame : ∀ bl, bl ∈ deepI (inn0 ++ [rim]) → w'.heap[bl]? = w.heap[bl]? := by
          intro bl hbl
          have hl : bl < w.heap.size := by rcases ho bl hbl with hh | ⟨_, _, hh⟩ <;> exact lt hh
          refine g6 bl hl fun hlt e => ?_
          subst e
          rcases g7 with ⟨_, j1, j2⟩ | ⟨j, _⟩
          · rw [deepI_append] at hbl
            rcases List.mem_append.1 hbl with hbl | hbl
            · exact j2 hbl
            · cases hre : rim.real with
              | false => simp [deepI, hre] at hbl
              | true => simp [deepI, hre] at hbl; subst hbl; exact apart j1 (hoccM hre)
          · omega
        refine ⟨by simp, rfl, g10, f1, f2, ?_, ?_, ?_⟩
        · rw [deep_eq]
          simp only [if_true]
          refine List.nodup_append.2 ⟨by simp, ?_, fun y hy z hz e => ?_⟩
          · rw [deepI_append]
            refine List.nodup_append.2 ⟨hnd, by cases hre : rim.real <;> simp [deepI, hre], fun y hy z hz e => ?_⟩
            subst e
            cases hre : rim.real with
            | false => simp [deepI, hre] at hz
            | true => simp [deepI, hre] at hz; subst hz; exact apart (hoccI _ hy) (hoccM hre)
          · simp only [List.mem_singleton] at hy
            subst hy; subst e
            rcases g7 with ⟨_, j1, j2⟩ | ⟨j, _⟩
            · rw [deepI_append] at hz
              rcases List.mem_append.1 hz with hz | hz
              · exact j2 hz
              · cases hre : rim.real with
                | false => simp [deepI, hre] at hz
                | true => simp [deepI, hre] at hz; rw [hz] at j1; exact apart j1 (hoccM hre)
            · have hl : y < w.heap.size := by rcases ho y hz with hh | ⟨_, _, hh⟩ <;> exact lt hh
              omega
        · have hall : All2 (fun (ri : IB) (x : kh.den × List ki.den) => ri.row w T' ki x.2) (inn0 ++ [rim]) (xs ++ [(x1, ys)]) := hrows.app (show All2 _ [rim] [(x1, ys)] from ⟨hrim, trivial⟩)
          exact rows_stay f2 hall fun r hr hre => hsame _ (by obtain ⟨i, hi⟩ := List.getElem?_of_mem hr; exact deepI_mem hi hre)
        · simp only [if_true]
          exact ⟨pren, olds ++ (vh ++ [vc]), postn, g8, rfl, drows_any f1 (drows_snoc hvh hvc hd), g9⟩) g5
    refine ⟨_, hrel, ⟨bn, pren.length, kh.size + 1, xs.length + 1, cap', true, none, inn0 ++ [rim]⟩, _, c', by rw [← h.bsize]; simp, rfl, rfl, rfl, g11, .inl ⟨rfl, by simp [Bl.addr], by simpa using g12⟩⟩
  obtain ⟨v', w', hrun, hcase⟩ := append_raw (P := P) (w := w) (ty := ty) ht hi hzv hsz hzs (A := A) (B := Ab) (n := xs.length) (c := c) (m := 1) (c2 := cb) (b := b0) (cap := cap) (pre := pre) (olds := olds) (post := post) (news := vh ++ [vc])
    lo (by simp [lh]) hone hc (hA.imp id fun ⟨e2, e3, e4, e5, _⟩ => ⟨e2, e3, e4, e5⟩) hcn hb1 hb2
  rcases hcase with ⟨_, c2', _⟩ | ⟨c1, c2', c3, c4, c5, c6, rfl, rfl⟩ | ⟨cap', zs, c1, c2', rfl, rfl⟩
  · omega
  · rcases hA with ⟨e1, e2⟩ | ⟨_, _, _, _, e5, e6⟩
    · omega
    obtain ⟨k1, k2, k3, k4, k5⟩ := setRow_facts w b0 (pre ++ olds ++ (vh ++ [vc]) ++ post.drop (vh ++ [vc]).length).toArray
    obtain ⟨r', j1, j2⟩ := fin (w.setRow b0 (pre ++ olds ++ (vh ++ [vc]) ++ post.drop (vh ++ [vc]).length).toArray) b0 c cap pre (post.drop (vh ++ [vc]).length) k1 k2 k3 (by omega) (Nat.le_refl _)
      (fun b hb hx => k5 b (hx (lt e5))) (.inl ⟨lt e5, e5, e6⟩) (by rw [setRow_same c3]; simp) (by simp at c6 ⊢; omega) (by omega) c1 c5
    exact ⟨_, _, r', hrun, j1, by rw [c2']; exact j2⟩
  · have hG : Grew w (w.drew.alloc (.cells ([] ++ (olds ++ (vh ++ [vc])) ++ zs).toArray e)) := (Grew.drew w).trans (Grew.alloc w.drew _)
    have hnew : (w.drew.alloc (.cells ([] ++ (olds ++ (vh ++ [vc])) ++ zs).toArray e)).heap[w.heap.size]? = some (.cells ([] ++ (olds ++ (vh ++ [vc])) ++ zs).toArray e) := heap_alloc_new w.drew _
    obtain ⟨r', j1, j2⟩ := fin _ w.heap.size cap' cap' [] zs hG.os hG.tape hG.output hG.size hG.drawn (fun b hb _ => hG.block b hb) (.inr ⟨Nat.le_refl _, by simp⟩) hnew (by simp at c2' ⊢; omega) c1 c1 (Nat.le_refl _)
    exact ⟨_, _, r', hrun, j1, j2⟩
end
end Go.Proofs.AM
end

section
namespace Go.Proofs.AM
open Go Go.RowKit

section
variable {P : Program} {C : Cx} {s : AS} {β : List Bl} {a : Act} {w : World} {R : Type} {k : AS → Option R} {r : R} {F : Fence} {n : Nat} {Q : Exit → Act → World → Prop} {o : Oper}

theorem rows_weak {q : K} {w w' : World} {M M' : Nat → Prop} (hb : ∀ b, M b → w'.heap[b]? = w.heap[b]?) (hM : ∀ b, M b → M' b) {xs : List q.den} {cs : List Value} (h : rows (q.rd w M) xs cs) : rows (q.rd w' M') xs cs :=
  h.mono fun x c hx => K.rd_mono hb hM q x c hx

theorem fl_weak {f g : Bool} {b : Nat} (h : (if f = true then C.fresh s.heap β w else C.N s.heap β w) b) (hg : g = true → f = true) : (if g = true then C.fresh s.heap β w else C.N s.heap β w) b := by
  cases g
  · cases f <;> first | exact h | exact Cx.fresh_N h
  · rw [hg rfl] at h; exact h

theorem append_core (h : Rel C s β a w) {t ty e : TypeId} {i : TypeInfo} {z : List AV} (ht : P.underlying t = some (.slice e)) (hi : P.info? e = some i) (hz : azero P e = some z) {q : K} (hsz : i.size = q.size) (hzl : z.length = q.size)
    {x : AV} {v : Value} (hx : x.R w (C.N s.heap β w) (C.fresh s.heap β w) β v) {xs : List q.den} {fr1 : Bool} {l : Option Nat} (eo : aowned s.heap e q x = some (xs, fr1, l))
    {B : Option Addr} {c2 : Nat} {ys : List q.den} {fr2 : Bool} {news : List Value} (hrn : rows (q.rd w (if fr2 then C.fresh s.heap β w else C.N s.heap β w)) ys news)
    (hcn : ys.length = 0 ∨ ∃ b o, B = some ⟨b, o, none⟩ ∧ cellsAt w b o news) (hb1 : (xs.length + ys.length) * i.bytes ≤ 140737488355328) (hb2 : xs.length + ys.length ≤ 140737488355328) :
    ∃ v' w' rr, (Builtin.append_ #[t, t] ty #[v, .slice B ys.length c2]).run P w = .ok v' w' ∧ Rel C ((s.kill l).push (.vec e q (xs ++ ys) (fr1 && fr2))) (β ++ [rr]) a w' ∧
      (∃ A c, v' = .slice A rr.n c ∧ rr.n ≤ c ∧ rr.slice A 0 rr.n c) := by
  obtain ⟨A, c, olds, rfl, hnc, hro, hco, hkill, hcase⟩ := own_cells h hx eo
  obtain ⟨i', zv, hi', hzv, rfl⟩ := azero_some hz
  rw [hi] at hi'; cases hi'
  have lo := rows.len (fun x c => K.rd_len w _ q x c) hro
  have ln := rows.len (fun x c => K.rd_len w _ q x c) hrn
  have hone := rows.one hrn
  by_cases hroom : xs.length + ys.length ≤ c
  · rcases hcase with hc0 | ⟨m, rr, f, ob, pre, post, cap, hm1, hm2, hm3, hocc, rfl, hh, hcap, hcc⟩
    · -- nothing there, nothing comes
      have hx0 : xs = [] := List.eq_nil_of_length_eq_zero (by omega)
      have hy0 : ys = [] := List.eq_nil_of_length_eq_zero (by omega)
      subst hx0 hy0
      have hn0 : news = [] := by simpa [rows] using hrn
      subst hn0
      have hrel := h.move (w' := w) l hkill (.vec e q ([] ++ []) (fr1 && fr2)) ⟨0, 0, q.size, 0, 0, false, none, []⟩ rfl rfl rfl (Nat.le_refl _) (fun _ _ _ => rfl) (fun b hb => by simp [AObj.occ] at hb)
        (fun _ _ _ => ⟨rfl, rfl, Nat.le_refl _, rfl⟩)
      refine ⟨.slice A 0 c, w, ⟨0, 0, q.size, 0, 0, false, none, []⟩, ?_, hrel, A, c, rfl, by simp, .inr ⟨rfl, hc0⟩⟩
      have hn' : (Builtin.firstCells i.size 0 (.slice B 0 c2)).run P w = .ok [].toArray w := run_firstCells' (by simp) (.inl rfl)
      cases A with
      | none => exact run_append_in ht hi hn' (by omega) (fun b o e => by simp at e) (.inl ⟨rfl, rfl⟩)
      | some ad =>
        subst hc0
        simp only [List.length_nil]
        have : ∀ q, (storeCells q []).run P w = .ok () w := fun q => rfl
        simp [Builtin.append_, run_underlying ht, sizeOf, typeInfo, hi, Builtin.lenOf, hn', this]
    · -- in place
      have hcle : (xs.length + ys.length) * q.size ≤ olds.length + post.length := by rw [hcap]; exact Nat.mul_le_mul_right _ (by omega)
      have hpost : news.length ≤ post.length := by rw [lo, Nat.add_mul] at hcle; omega
      have hst := run_store_block (P := P) (w := w) (b := rr.blk) (o := pre.length + xs.length * i.size) (T := e) (pre := pre ++ olds) (old := post.take news.length) (post := post.drop news.length) (news := news)
        (by rw [hh]; simp) (by simp [lo, hsz]) (by simp; omega) hone
      have hn' : (Builtin.firstCells i.size ys.length (.slice B ys.length c2)).run P w = .ok news.toArray w := run_firstCells' (by rw [ln, hsz]) hcn
      have hrun := run_append_in (w' := w.setRow rr.blk (pre ++ olds ++ news ++ post.drop news.length).toArray) (ty := ty) ht hi (A := some ⟨rr.blk, pre.length, none⟩) (n := xs.length) (c := c) hn' hroom
        (fun b o e => by cases e; exact hst) (.inr ⟨_, _, rfl⟩)
      obtain ⟨f1, f2, f3, f4, f5⟩ := setRow_facts w rr.blk (pre ++ olds ++ news ++ post.drop news.length).toArray
      have hlt := (h.occ m _ rr rr.blk hm2 hm3 hocc).1
      refine ⟨_, _, ⟨rr.blk, pre.length, q.size, xs.length + ys.length, cap, true, none, []⟩, hrun, ?_, _, c, rfl, hroom, .inl ⟨rfl, by simp [Bl.addr], by simpa using hcc⟩⟩
      refine h.move l hkill _ _ f1 f2 f3 (by omega) (fun b hb hx => f5 b (fun e => hx m _ rr hm1 hm2 hm3 (by rw [e]; exact hocc))) (fun b hb => ?_) (fun hN hNf hbl => ?_)
      · simp only [AObj.occ, if_true, List.mem_singleton] at hb
        subst hb
        exact ⟨by omega, .inr ⟨m, _, rr, hm1, hm2, hm3, hocc⟩⟩
      · refine ⟨by simp, rfl, by show xs.length + ys.length ≤ cap; omega, ?_⟩
        simp only [if_true]
        refine ⟨pre, olds ++ news, post.drop news.length, ?_, rfl, ?_, ?_⟩
        · rw [setRow_same hh]; simp
        · have up : ∀ g, (g = true → False) ∨ True → True := fun _ _ => trivial
          have tgt : ∀ b, (if (fr1 && fr2) = true then C.fresh s.heap β w else C.N s.heap β w) b → (if (fr1 && fr2) = true then C.fresh ((s.kill l).push (.vec e q (xs ++ ys) (fr1 && fr2))).heap (β ++ [⟨rr.blk, pre.length, q.size, xs.length + ys.length, cap, true, none, []⟩]) (w.setRow rr.blk (pre ++ olds ++ news ++ post.drop news.length).toArray) else C.N ((s.kill l).push (.vec e q (xs ++ ys) (fr1 && fr2))).heap (β ++ [⟨rr.blk, pre.length, q.size, xs.length + ys.length, cap, true, none, []⟩]) (w.setRow rr.blk (pre ++ olds ++ news ++ post.drop news.length).toArray)) b := fun b hb => by
            by_cases hg : (fr1 && fr2) = true
            · rw [if_pos hg] at hb ⊢; exact hNf b hb
            · rw [if_neg hg] at hb ⊢; exact hN b hb
          have same : ∀ b, (if (fr1 && fr2) = true then C.fresh s.heap β w else C.N s.heap β w) b → (w.setRow rr.blk (pre ++ olds ++ news ++ post.drop news.length).toArray).heap[b]? = w.heap[b]? := fun b hb => hbl b (by
            by_cases hg : (fr1 && fr2) = true
            · rw [if_pos hg] at hb; exact Cx.fresh_N hb
            · rw [if_neg hg] at hb; exact hb)
          exact (rows_weak same tgt (rows_weak (fun _ _ => rfl) (fun b hb => fl_weak hb (by simp; exact fun h _ => h)) hro)).app
            (rows_weak same tgt (rows_weak (fun _ _ => rfl) (fun b hb => fl_weak hb (by simp)) hrn))
        · simp only [List.length_append, List.length_drop]
          show olds.length + news.length + (post.length - news.length) = cap * q.size
          omega
  · -- new memory
    have hco' : xs.length = 0 ∨ ∃ b o, A = some ⟨b, o, none⟩ ∧ cellsAt w.drew b o olds := hco
    have hcn' : ys.length = 0 ∨ ∃ b o, B = some ⟨b, o, none⟩ ∧ cellsAt w.drew b o news := hcn
    have ho' := run_firstCells' (P := P) (w := w.drew) (A := A) (len := xs.length) (c := c) (size := i.size) (news := olds) (m := xs.length) (by rw [lo, hsz]) hco'
    have hn' := run_firstCells' (P := P) (w := w.drew) (A := B) (len := ys.length) (c := c2) (size := i.size) (news := news) (m := ys.length) (by rw [ln, hsz]) hcn'
    have hrun := run_append_gen (ty := ty) ht hi hzv ho' hn' (by omega) (by omega) (growslice_fits (by omega) hb1)
    have hge := grownCap_ge w (xs.length + ys.length) c e
    have hnew : (w.drew.alloc (.cells (olds.toArray ++ news.toArray ++ Builtin.zeroCells zv.cells (grownCap w (xs.length + ys.length) c e - (xs.length + ys.length))) e)).heap[w.heap.size]? =
        some (.cells (olds.toArray ++ news.toArray ++ Builtin.zeroCells zv.cells (grownCap w (xs.length + ys.length) c e - (xs.length + ys.length))) e) := heap_alloc_new w.drew _
    have hold : ∀ b, b < w.heap.size → (w.drew.alloc (.cells (olds.toArray ++ news.toArray ++ Builtin.zeroCells zv.cells (grownCap w (xs.length + ys.length) c e - (xs.length + ys.length))) e)).heap[b]? = w.heap[b]? :=
      fun b hb => (Grew.alloc w.drew _).block b hb
    have hzs := constTV_len zv
    refine ⟨_, _, ⟨w.heap.size, 0, q.size, xs.length + ys.length, grownCap w (xs.length + ys.length) c e, true, none, []⟩, hrun, ?_, _, _, rfl, hge, .inl ⟨rfl, by simp [Bl.addr], by simp⟩⟩
    refine h.move l hkill _ _ rfl rfl rfl (by simp) (fun b hb _ => hold b hb) (fun b hb => ?_) (fun hN hNf hbl => ?_)
    · simp only [AObj.occ, if_true, List.mem_singleton] at hb
      subst hb
      exact ⟨by simp, .inl (Nat.le_refl _)⟩
    · refine ⟨by simp, rfl, hge, ?_⟩
      simp only [if_true]
      refine ⟨[], olds ++ news, (Builtin.zeroCells zv.cells (grownCap w (xs.length + ys.length) c e - (xs.length + ys.length))).toList, ?_, rfl, ?_, ?_⟩
      · rw [hnew]; congr 2; apply Array.ext'; simp
      · generalize hW : (w.drew.alloc (.cells (olds.toArray ++ news.toArray ++ Builtin.zeroCells zv.cells (grownCap w (xs.length + ys.length) c e - (xs.length + ys.length))) e)) = W at *
        have tgt : ∀ b, (if (fr1 && fr2) = true then C.fresh s.heap β w else C.N s.heap β w) b → (if (fr1 && fr2) = true then C.fresh ((s.kill l).push (.vec e q (xs ++ ys) (fr1 && fr2))).heap (β ++ [⟨w.heap.size, 0, q.size, xs.length + ys.length, grownCap w (xs.length + ys.length) c e, true, none, []⟩]) W else C.N ((s.kill l).push (.vec e q (xs ++ ys) (fr1 && fr2))).heap (β ++ [⟨w.heap.size, 0, q.size, xs.length + ys.length, grownCap w (xs.length + ys.length) c e, true, none, []⟩]) W) b := fun b hb => by
          by_cases hg : (fr1 && fr2) = true
          · rw [if_pos hg] at hb ⊢; exact hNf b hb
          · rw [if_neg hg] at hb ⊢; exact hN b hb
        have same : ∀ b, (if (fr1 && fr2) = true then C.fresh s.heap β w else C.N s.heap β w) b → W.heap[b]? = w.heap[b]? := fun b hb => hbl b (by
          by_cases hg : (fr1 && fr2) = true
          · rw [if_pos hg] at hb; exact Cx.fresh_N hb
          · rw [if_neg hg] at hb; exact hb)
        exact (rows_weak same tgt (rows_weak (fun _ _ => rfl) (fun b hb => fl_weak hb (by simp; exact fun h _ => h)) hro)).app
          (rows_weak same tgt (rows_weak (fun _ _ => rfl) (fun b hb => fl_weak hb (by simp)) hrn))
      · simp only [List.length_append, lo, ln, Array.length_toList, size_zeroCells, ← hzs, hzl, ← Nat.add_mul]
        congr 1; omega

theorem appendTo_step (hF : FW F) (h : Rel C s β a w) {c : Call} (ho : o.op = .call c) (hcal : c.callee = .builtin .append) {x y : Operand} {t : TypeId} (hargs : c.args = #[x, y]) (htys : c.argTypes = #[t, t]) {e : TypeId} (ht : aelem P t = some e)
    {xa : AV} (hx : s.ev x = .one xa) {q : K} {ys : List q.den} {fr2 : Bool} {B : Option Addr} {c2 : Nat} {news : List Value} (hy : a.eval y = .slice B ys.length c2)
    (hrn : rows (q.rd w (if fr2 then C.fresh s.heap β w else C.N s.heap β w)) ys news) (hcn : ys.length = 0 ∨ ∃ b o, B = some ⟨b, o, none⟩ ∧ cellsAt w b o news)
    (ee : aappendTo P s o.dst e q ys fr2 xa k = some r) : o.wpIn F n P a w (After C s β (fun i => o.dst = some i) k r) Q := by
  unfold aappendTo at ee
  split at ee
  rotate_left
  · simp at ee
  rename_i xs fr1 l i z hown hi hz
  split at ee
  rotate_left
  · simp at ee
  rename_i hs
  obtain ⟨hb1, e1⟩ := gd_some ee; clear ee
  obtain ⟨hb2, ee⟩ := gd_some e1; clear e1
  obtain ⟨_, _, _, _, _, _, _, hkl, _⟩ := own_cells h (h.ev1 hx) hown
  obtain ⟨v', w', rr, hrun, hrel, A, cc, hv', hcc, hsl⟩ := append_core (ty := o.type) h (aelem_some ht) hi hz hs.1 hs.2 (h.ev1 hx) hown (B := B) (c2 := c2) hrn hcn hb1 hb2
  refine wpIn_value hF (by simp [ho]) (v := v') (w' := w') ?_ ⟨_, _, ee, hrel.put _ _ _ ?_, ((Ext.kill _ s β l hkl).trans (Ext.push _ _ _ _ _)).trans (Ext.put _ _ _ _)⟩
  · simp only [execOp, ho, resolve, hcal, hargs, htys, List.map_toArray, List.map_cons, List.map_nil, Sem.run_bind, Sem.run_pure, Result.andThen_ok, invoke, builtin, hy, hrun]
  · exact ⟨rr, A, cc, by rw [← h.bsize]; simp, hv', hcc, hsl⟩

theorem adeepW_inner {h : Heap} {e : TypeId} {a b : AV} {nm p i : Nat} (hw : adeepW h e a b = .inner nm p i) : a = .dv nm p i := by
  unfold adeepW at hw
  split at hw
  · cases hw; rfl
  · split at hw
    · split at hw <;> cases hw
    · cases hw
  · cases hw

theorem adeepW_row {h : Heap} {e : TypeId} {a b : AV} {l : Nat} {cs : List AV} (hw : adeepW h e a b = .row l cs) : b = .vw l 0 1 ∧ hat h l = .box e cs := by
  unfold adeepW at hw
  split at hw
  · cases hw
  · split at hw
    · rename_i T cs' ho
      split at hw
      · rename_i hT
        subst hT
        cases hw
        exact ⟨rfl, ho⟩
      · cases hw
    · cases hw
  · cases hw

theorem deepK_flat {e T' : TypeId} {kh ki : K} (h : deepK P e = some (T', kh, ki)) : kh.flat = true ∧ ki.flat = true := by
  unfold deepK at h
  split at h
  · split at h
    · split at h
      · split at h
        · rename_i hf
          simp only [Option.some.injEq, Prod.mk.injEq] at h
          obtain ⟨_, rfl, rfl⟩ := h
          simpa using hf
        · simp at h
      · simp at h
    · simp at h
  · simp at h

theorem appendIn_step (hF : FW F) (h : Rel C s β a w) {c : Call} (ho : o.op = .call c) (hcal : c.callee = .builtin .append) {x y : Operand} {t : TypeId} (hargs : c.args = #[x, y]) (htys : c.argTypes = #[t, t]) {e : TypeId} (ht : aelem P t = some e)
    {nm p m : Nat} (hx : s.ev x = .one (.dv nm p m)) {q : K} {ys : List q.den} {M : Nat → Prop} {B : Option Addr} {c2 : Nat} {news : List Value} (hy : a.eval y = .slice B ys.length c2)
    (hrn : rows (q.rd w M) ys news) (hcn : ys.length = 0 ∨ ∃ b o, B = some ⟨b, o, none⟩ ∧ cellsAt w b o news)
    (ee : aappendIn P s o.dst e q ys nm p m k = some r) : o.wpIn F n P a w (After C s β (fun i => o.dst = some i) k r) Q := by
  unfold aappendIn at ee
  split at ee
  rotate_left
  · simp at ee
  rename_i p' hpl
  split at ee
  rotate_left
  · simp at ee
  rename_i hp
  subst hp
  split at ee
  rotate_left
  · simp at ee
  rename_i T T' kh ki xs inf z hob hi hz
  split at ee
  rotate_left
  · simp at ee
  rename_i hc
  obtain ⟨rfl, hs1, hs2⟩ := hc
  split at ee
  rotate_left
  · simp at ee
  rename_i hq
  subst hq
  obtain ⟨hb1, e1⟩ := gd_some ee; clear ee
  obtain ⟨hb2, ee⟩ := gd_some e1; clear e1
  obtain ⟨v', w', rr, hrun, hrel, hv⟩ := inner_core (P := P) (ty := o.type) h (aelem_some ht) hi hz hpl hob hs1 hs2 (h.ev1 hx) (B := B) (c2 := c2) hrn hcn hb1 hb2
  refine wpIn_value hF (by simp [ho]) (v := v') (w' := w') ?_ ⟨_, _, ee, hrel.put _ _ _ hv, ?_⟩
  · simp only [execOp, ho, resolve, hcal, hargs, htys, List.map_toArray, List.map_cons, List.map_nil, Sem.run_bind, Sem.run_pure, Result.andThen_ok, invoke, builtin, hy, hrun]
  · refine Ext.trans (s' := { s with heap := (hkill s.heap [p'] ++ [(true, AObj.dvec T T' kh q (setIn xs m (ith xs m ++ ys)) (some m))]).set nm (true, .hnd s.heap.length) }) ?_ (Ext.put _ _ _ _)
    obtain ⟨f1, r0, rp, Ta, Tb, kha, kia, xsa, holea, k1, k2, k3, k4, _⟩ := h.pool hpl
    rw [hob] at k1; cases k1
    have hpne : s.heap[p']? ≠ some (true, .mark) := by rw [k2]; simp
    have hnm : s.heap[nm]? ≠ some (true, .mark) := by
      intro hm
      unfold hpool at hpl
      rw [show hat s.heap nm = .mark by simp [hat, hm]] at hpl
      simp at hpl
    refine ⟨⟨[rr], rfl⟩, fun _ _ => rfl, rfl, by simp [hkill_len], fun l o' hl ho' => ?_, ⟨[], rfl⟩, fun l hl => ?_⟩
    · have ho' : ((hkill s.heap [p'] ++ [(true, AObj.dvec T T' kh q (setIn xs m (ith xs m ++ ys)) (some m))]).set nm (true, .hnd s.heap.length))[l]? = some (false, o') := ho'
      by_cases e1 : nm = l
      · subst e1
        rw [List.getElem?_set_self (by simp [hkill_len]; omega)] at ho'
        simp at ho'
      · rw [List.getElem?_set_ne e1, List.getElem?_append_left (by rw [hkill_len]; exact hl)] at ho'
        by_cases e2 : l = p'
        · rw [hkill_mem _ _ _ (by simp [e2]) hl] at ho'; simp at ho'
        · rwa [hkill_ne _ _ _ (by simp [e2])] at ho'
    · have hll := (List.getElem?_eq_some_iff.1 hl).1
      show ((hkill s.heap [p'] ++ [(true, AObj.dvec T T' kh q (setIn xs m (ith xs m ++ ys)) (some m))]).set nm (true, .hnd s.heap.length))[l]? = _
      rw [List.getElem?_set_ne (fun e => hnm (by rw [e]; exact hl)), List.getElem?_append_left (by rw [hkill_len]; exact hll), hkill_ne _ _ _ (by simp; exact fun e => hpne (by rw [← e]; exact hl))]
      exact hl

theorem appendRow_step (hF : FW F) (h : Rel C s β a w) {c : Call} (ho : o.op = .call c) (hcal : c.callee = .builtin .append) {x y : Operand} {t : TypeId} (hargs : c.args = #[x, y]) (htys : c.argTypes = #[t, t]) {e : TypeId} (ht : aelem P t = some e)
    {xa : AV} (hx : s.ev x = .one xa) {l : Nat} {cs : List AV} (hy : s.ev y = .one (.vw l 0 1)) (hob : hat s.heap l = .box e cs)
    (ee : aappendRow P s o.dst e xa l cs k = some r) : o.wpIn F n P a w (After C s β (fun i => o.dst = some i) k r) Q := by
  unfold aappendRow at ee
  split at ee
  rotate_left
  · simp at ee
  rename_i T' kh ki inf z hdk hi hz
  obtain ⟨f1, f2⟩ := deepK_flat hdk
  split at ee
  rotate_left
  · simp at ee
  rename_i hc
  obtain ⟨hs1, hs2⟩ := hc
  split at ee
  rotate_left
  · simp at ee
  rename_i xs T1 x1 ys T2 hX hE
  obtain ⟨hb1, e1⟩ := gd_some ee; clear ee
  obtain ⟨hb2, ee⟩ := gd_some e1; clear e1
  obtain ⟨v', w', rr, hrun, hrel, hv⟩ := row_core (P := P) (ty := o.type) h (aelem_some ht) hi hz f1 f2 hs1 hs2 (h.ev1 hx) hX hob hE (h.ev1 hy) hb1 hb2
  refine wpIn_value hF (by simp [ho]) (v := v') (w' := w') ?_ ⟨_, _, ee, hrel.put _ _ _ (by rw [show (xs ++ [(x1, ys)]).length = xs.length + 1 by simp]; exact hv), ?_⟩
  · simp only [execOp, ho, resolve, hcal, hargs, htys, List.map_toArray, List.map_cons, List.map_nil, Sem.run_bind, Sem.run_pure, Result.andThen_ok, invoke, builtin, hrun]
  · refine Ext.trans (s' := { s with heap := hkill s.heap (l :: (T2 ++ T1)) ++ [(true, .dvec e T' kh ki (xs ++ [(x1, ys)]) none)] }) ?_ (Ext.put _ _ _ _)
    obtain ⟨_, _, _, _, _, _, _, _, _, _, _, _, _, _, _, hK1⟩ := deepX_sound h (h.ev1 hx) hX
    obtain ⟨fb, rb, hfb, hrb, vs, hhb, hbz, hcs⟩ := h.obj hob (by simp)
    obtain ⟨_, _, _, _, _, _, _, _, hK2⟩ := deepE_sound h f1 f2 hcs hE
    have hK : ∀ m ∈ l :: (T2 ++ T1), s.heap[m]? ≠ some (true, .mark) := by
      intro m hm e
      rcases List.mem_cons.1 hm with rfl | hm
      · rw [hfb] at e; simp at e
      · rcases List.mem_append.1 hm with hm | hm
        · obtain ⟨o, h1, h2⟩ := hK2 m hm
          rw [e] at h1; cases h1; exact h2 rfl
        · obtain ⟨o, h1, h2⟩ := hK1 m hm
          rw [e] at h1; cases h1; exact h2 rfl
    refine ⟨⟨[rr], rfl⟩, fun _ _ => rfl, rfl, by simp [hkill_len], fun m o' hl ho' => ?_, ⟨[], rfl⟩, fun m hl => ?_⟩
    · have ho' : (hkill s.heap (l :: (T2 ++ T1)) ++ [(true, AObj.dvec e T' kh ki (xs ++ [(x1, ys)]) none)])[m]? = some (false, o') := ho'
      rw [List.getElem?_append_left (by rw [hkill_len]; exact hl)] at ho'
      by_cases e2 : m ∈ l :: (T2 ++ T1)
      · rw [hkill_mem _ _ _ e2 hl] at ho'; simp at ho'
      · rwa [hkill_ne _ _ _ e2] at ho'
    · have hll := (List.getElem?_eq_some_iff.1 hl).1
      show (hkill s.heap (l :: (T2 ++ T1)) ++ [(true, AObj.dvec e T' kh ki (xs ++ [(x1, ys)]) none)])[m]? = _
      rw [List.getElem?_append_left (by rw [hkill_len]; exact hll), hkill_ne _ _ _ (fun hm => hK m hm hl)]
      exact hl

theorem append_step (hF : FW F) (h : Rel C s β a w) {c : Call} (ho : o.op = .call c) (hcal : c.callee = .builtin .append) (ee : aappend P s o c k = some r) :
    o.wpIn F n P a w (After C s β (fun i => o.dst = some i) k r) Q := by
  unfold aappend at ee
  split at ee
  rotate_left
  · simp at ee
  rename_i x y t t' hargs htys
  split at ee
  rotate_left
  · simp at ee
  rename_i htt
  subst htt
  have hargs' : c.args = #[x, y] := by rw [← Array.toArray_toList (xs := c.args), hargs]
  have htys' : c.argTypes = #[t, t] := by rw [← Array.toArray_toList (xs := c.argTypes), htys]
  split at ee
  rotate_left
  · simp at ee
  rename_i e xa ya ht hx hy
  split at ee
  · rename_i nm p m hw
    have := adeepW_inner hw
    subst this
    split at ee
    rotate_left
    · simp at ee
    rename_i q ys fr2 hb
    obtain ⟨A, c2, news, hv, hle, hrn, hcn⟩ := src_cells h (h.ev1 hy) hb
    exact appendIn_step hF h ho hcal hargs' htys' ht hx hv hrn hcn ee
  · rename_i l cs hw
    obtain ⟨rfl, hob⟩ := adeepW_row hw
    split at ee
    · simp at ee
    · exact appendRow_step hF h ho hcal hargs' htys' ht hx hy hob ee
  split at ee
  · rename_i q ys fr2 hb
    obtain ⟨A, c2, news, hv, hle, hrn, hcn⟩ := src_cells h (h.ev1 hy) hb
    exact appendTo_step hF h ho hcal hargs' htys' ht hx hv hrn hcn ee
  · rename_i hb
    split at ee
    · rename_i q hq
      have hya : ya = .nilsl := by
        cases ya <;> simp [AV.bor] at hb ⊢
        all_goals (split at hb <;> simp at hb)
      have hv := h.ev1 hy
      rw [hya] at hv
      have hv : a.eval y = .slice none 0 0 := hv
      exact appendTo_step hF h ho hcal hargs' htys' ht hx (q := q) (ys := []) (B := none) (c2 := 0) (news := []) hv rfl (.inl rfl) ee
    · simp at ee
  · simp at ee

theorem appendV_step (hF : FW F) (h : Rel C s β a w) {c : Call} (ho : o.op = .call c) (hcal : c.callee = .builtin .append) (ee : aappendV P s c (fun tv => k (s.put o.dst tv)) = some r) :
    o.wpIn F n P a w (After C s β (fun i => o.dst = some i) k r) Q := by
  unfold aappendV at ee
  split at ee
  rotate_left
  · simp at ee
  rename_i x y t t' hargs htys
  split at ee
  rotate_left
  · simp at ee
  rename_i htt
  subst htt
  have hargs' : c.args = #[x, y] := by rw [← Array.toArray_toList (xs := c.args), hargs]
  have htys' : c.argTypes = #[t, t] := by rw [← Array.toArray_toList (xs := c.argTypes), htys]
  split at ee
  rotate_left
  · simp at ee
  rename_i e ya ht hx hy
  split at ee
  rotate_left
  · simp at ee
  rename_i q ys fr2 hb
  split at ee
  rotate_left
  · simp at ee
  rename_i i z hi hz
  split at ee
  rotate_left
  · simp at ee
  rename_i hs
  obtain ⟨hb1, e1⟩ := gd_some ee
  obtain ⟨hb2, e2⟩ := gd_some e1
  obtain ⟨A, c2, news, hv, hle, hrn, hcn⟩ := src_cells h (h.ev1 hy) hb
  have hxv : a.eval x = .slice none 0 0 := h.ev1 hx
  obtain ⟨i', zv, hi', hzv, rfl⟩ := azero_some hz
  rw [hi] at hi'; cases hi'
  have ln := rows.len (fun x c => K.rd_len w _ q x c) hrn
  have run : ∀ (v' : Value) (w' : World), (Builtin.append_ #[t, t] o.type #[.slice none 0 0, .slice A ys.length c2]).run P w = .ok v' w' → (execOp a.eval o).run P w = .ok (.value v') w' := fun v' w' hrun => by
    simp only [execOp, ho, resolve, hcal, hargs', htys', List.map_toArray, List.map_cons, List.map_nil, Sem.run_bind, Sem.run_pure, Result.andThen_ok, invoke, builtin, hv, hxv, hrun]
  by_cases hy0 : ys.length = 0
  · have hys : ys = [] := List.eq_nil_of_length_eq_zero hy0
    subst hys
    have hn0 : news = [] := by simpa [rows] using hrn
    subst hn0
    have hn' : (Builtin.firstCells i.size 0 (.slice A 0 c2)).run P w = .ok [].toArray w := run_firstCells' (by simp) (.inl rfl)
    have hrun := run_append_in (P := P) (w := w) (w' := w) (ty := o.type) (t := t) (e := e) (A := none) (B := A) (n := 0) (c := 0) (m := 0) (c2 := c2) (news := []) (aelem_some ht) hi hn' (by omega) (fun b o e => by simp at e) (.inl ⟨rfl, rfl⟩)
    refine wpIn_value hF (by simp [ho]) (run _ _ hrun) ⟨_, _, e2, h.put _ _ _ ?_, Ext.put _ _ _ _⟩
    exact ⟨none, 0, rfl, Nat.le_refl _, .inl rfl⟩
  · have hcn' : ys.length = 0 ∨ ∃ b o, A = some ⟨b, o, none⟩ ∧ cellsAt w.drew b o news := hcn
    have ho' := run_firstCells' (P := P) (w := w.drew) (A := none) (len := 0) (c := 0) (size := i.size) (news := []) (m := 0) (by simp) (.inl rfl)
    have hn' := run_firstCells' (P := P) (w := w.drew) (A := A) (len := ys.length) (c := c2) (size := i.size) (news := news) (m := ys.length) (by rw [ln, hs.1]) hcn'
    have hrun := run_append_gen (ty := o.type) (aelem_some ht) hi hzv ho' hn' (by omega) (by omega) (growslice_fits (by omega) (by rw [Nat.zero_add]; exact hb1))
    have hge := grownCap_ge w (0 + ys.length) 0 e
    have hG : Grew w (w.drew.alloc (.cells (([] : List Value).toArray ++ news.toArray ++ Builtin.zeroCells zv.cells (grownCap w (0 + ys.length) 0 e - (0 + ys.length))) e)) := (Grew.drew w).trans (Grew.alloc w.drew _)
    have hnew : (w.drew.alloc (.cells (([] : List Value).toArray ++ news.toArray ++ Builtin.zeroCells zv.cells (grownCap w (0 + ys.length) 0 e - (0 + ys.length))) e)).heap[w.heap.size]? =
        some (.cells (([] : List Value).toArray ++ news.toArray ++ Builtin.zeroCells zv.cells (grownCap w (0 + ys.length) 0 e - (0 + ys.length))) e) := heap_alloc_new w.drew _
    generalize hW : (w.drew.alloc (.cells (([] : List Value).toArray ++ news.toArray ++ Builtin.zeroCells zv.cells (grownCap w (0 + ys.length) 0 e - (0 + ys.length))) e)) = W at *
    have hWs : w.heap.size < W.heap.size := by rw [← hW]; simp
    obtain ⟨h3, mv3⟩ := h.grew hG
    have hfresh : C.fresh s.heap β W w.heap.size := ⟨h.keep.size, hWs, fun l o' rr e1 e2 hx => by
      have := (h.occ l o' rr _ e1 e2 hx).1; omega⟩
    have hN : ∀ b, C.N s.heap β w b → C.N s.heap β W b := fun b hb => ⟨hb.1, by have := hb.2.1; omega, hb.2.2⟩
    have hNf : ∀ b, C.fresh s.heap β w b → C.fresh s.heap β W b := fun b hb => ⟨hb.1, by have := hb.2.1; omega, hb.2.2⟩
    refine wpIn_value hF (by simp [ho]) (run _ _ hrun) ⟨_, _, e2, h3.put _ _ _ ?_, Ext.put _ _ _ _⟩
    refine ⟨_, grownCap w (0 + ys.length) 0 e, by rw [Nat.zero_add], by simpa using hge, .inr ⟨w.heap.size, 0, news, rfl, ?_, ?_, ?_⟩⟩
    · by_cases hg : (fr2 || q.flat) = true
      · rw [if_pos hg]; exact hfresh
      · rw [if_neg hg]; exact Cx.fresh_N hfresh
    · refine cellsAt_block (pre := []) (T := e) (fz := (0, 0)) (post := (Builtin.zeroCells zv.cells (grownCap w (0 + ys.length) 0 e - (0 + ys.length))).toList) ?_
      rw [hnew]
      congr 2
      apply Array.ext'; simp
    · refine rows_weak (fun b hb => ?_) (fun b hb => ?_) hrn
      · by_cases hg : (fr2 || q.flat) = true
        · rw [if_pos hg] at hb; exact hG.block b hb.2.1
        · rw [if_neg hg] at hb; exact hG.block b hb.2.1
      · by_cases hg : (fr2 || q.flat) = true
        · rw [if_pos hg] at hb ⊢; exact hNf b hb
        · rw [if_neg hg] at hb ⊢; exact hN b hb
end
section
variable {P : Program} {C : Cx} {s : AS} {β : List Bl} {a : Act} {w : World}

theorem trim_core (h : Rel C s β a w) {e : TypeId} {q : K} {x : AV} {v : Value} (hx : x.R w (C.N s.heap β w) (C.fresh s.heap β w) β v) {xs : List q.den} {fr : Bool} {l : Option Nat} (eo : aowned s.heap e q x = some (xs, fr, l)) :
    ∃ rr, Rel C ((s.kill l).push (.vec e q xs fr)) (β ++ [rr]) a w ∧ (∃ A c, v = .slice A rr.n c ∧ rr.n ≤ c ∧ rr.slice A 0 rr.n c) := by
  obtain ⟨A, c, olds, rfl, hnc, hro, hco, hkill, hcase⟩ := own_cells h hx eo
  rcases hcase with hc0 | ⟨m, rr, f, ob, pre, post, cap, hm1, hm2, hm3, hocc, rfl, hh, hcap, hcc⟩
  · have hx0 : xs = [] := List.eq_nil_of_length_eq_zero (by omega)
    subst hx0
    have hrel := h.move (w' := w) l hkill (.vec e q [] fr) ⟨0, 0, q.size, 0, 0, false, none, []⟩ rfl rfl rfl (Nat.le_refl _) (fun _ _ _ => rfl) (fun b hb => by simp [AObj.occ] at hb)
      (fun _ _ _ => ⟨rfl, rfl, Nat.le_refl _, rfl⟩)
    exact ⟨_, hrel, A, c, rfl, by simp, .inr ⟨rfl, hc0⟩⟩
  · have hlt := (h.occ m _ rr rr.blk hm2 hm3 hocc).1
    refine ⟨⟨rr.blk, pre.length, q.size, xs.length, cap, true, none, []⟩, ?_, _, c, rfl, hnc, .inl ⟨rfl, by simp [Bl.addr], by simpa using hcc⟩⟩
    refine h.move (w' := w) l hkill _ _ rfl rfl rfl (Nat.le_refl _) (fun _ _ _ => rfl) (fun b hb => ?_) (fun hN hNf hbl => ?_)
    · simp only [AObj.occ, if_true, List.mem_singleton] at hb
      subst hb
      exact ⟨by omega, .inr ⟨m, _, rr, hm1, hm2, hm3, hocc⟩⟩
    · refine ⟨rfl, rfl, by show xs.length ≤ cap; omega, ?_⟩
      simp only [if_true]
      refine ⟨pre, olds, post, hh, rfl, rows_weak (fun _ _ => rfl) (fun b hb => ?_) hro, hcap⟩
      cases fr
      · exact hN b hb
      · exact hNf b hb
end
end Go.Proofs.AM
end

section
namespace Go.Proofs.AM
open Go Go.RowKit

theorem All2.get2' {α β : Type} {R : α → β → Prop} : ∀ {l : List α} {m : List β} {i : Nat} {x : α}, All2 R l m → l[i]? = some x → ∃ y, m[i]? = some y ∧ R x y
  | _ :: _, y :: _, 0, x, h, e => by simp at e; subst e; exact ⟨y, rfl, h.1⟩
  | _ :: _, _ :: _, i + 1, x, h, e => by simpa using All2.get2' h.2 (by simpa using e)
  | [], _, i, x, h, e => by simp at e
  | _ :: _, [], i, x, h, e => h.elim

theorem findNow_spec {P : Program} {w : World} {N : Nat → Prop} {kt : TypeId} {d : TypeDesc} {ki vi : Bool × K} (hd : P.underlying kt = some d) (hk : keyOkS P kt ki = true) {x : ki.2.den} {kv : Value} (hx : valR w N ki x kv) :
    ∀ {es : List (ki.2.den × vi.2.den)} {l : List MapEntry} {M : Nat → Prop}, All2 (entR w M ki vi) es l → ∀ i,
      (mhas ki es x = false ∧ Instr.findNow d kv l i = some none ∧ (∀ z, mget ki es x z = z) ∧ (∀ y, mset ki es x y = es ++ [(x, y)]) ∧ mdel ki es x = es) ∨
      (∃ j p e, mhas ki es x = true ∧ es[j]? = some p ∧ l[j]? = some e ∧ Instr.findNow d kv l i = some (some (i + j, e.val)) ∧ (∀ z, mget ki es x z = p.2) ∧ (∀ y, mset ki es x y = es.set j (x, y)) ∧ mdel ki es x = es.eraseIdx j ∧ Instr.sameBits 10000 e.key kv = true)
  | [], [], M, _, i => .inl ⟨rfl, rfl, fun _ => rfl, fun _ => rfl, rfl⟩
  | [], _ :: _, _, h, _ => h.elim
  | _ :: _, [], _, h, _ => h.elim
  | p :: es, e :: l, M, h, i => by
    have hs : Instr.sameNow d kv e.key = some (ki.2.beq x p.1) ∧ (ki.2.beq x p.1 = true → Instr.sameBits 10000 e.key kv = true) := by
      have he := h.1.1
      clear h
      unfold keyOkS at hk
      rw [hd] at hk
      obtain ⟨ka, kk⟩ := ki
      split at hk
      · rename_i q _ q' e1 e2
        cases e1
        simp only [Prod.mk.injEq] at e2
        obtain ⟨rfl, rfl⟩ := e2
        have hx : [kv] = [Value.int q' x] := hx
        have he : [e.key] = [Value.int q' p.1] := he
        simp only [List.cons.injEq, and_true] at hx he
        rw [hx, he]
        refine ⟨by simp [Instr.sameNow, K.beq], fun hb => ?_⟩
        have hb : x = p.1 := by simpa [K.beq] using hb
        simp [Instr.sameBits, hb]
      · rename_i e1 e2
        cases e1
        simp only [Prod.mk.injEq] at e2
        obtain ⟨rfl, rfl⟩ := e2
        have hx : [kv] = [Value.bool x] := hx
        have he : [e.key] = [Value.bool p.1] := he
        simp only [List.cons.injEq, and_true] at hx he
        rw [hx, he]
        refine ⟨by simp [Instr.sameNow, K.beq], fun hb => ?_⟩
        have hb : x = p.1 := by simpa [K.beq] using hb
        simp [Instr.sameBits, hb]
      · rename_i e1 e2
        cases e1
        simp only [Prod.mk.injEq] at e2
        obtain ⟨rfl, rfl⟩ := e2
        have hx : [kv] = [Value.string x] := hx
        have he : [e.key] = [Value.string p.1] := he
        simp only [List.cons.injEq, and_true] at hx he
        rw [hx, he]
        refine ⟨by simp [Instr.sameNow, K.beq], fun hb => ?_⟩
        have hb : (x == p.1) = true := hb
        have lem : ∀ u v : ByteArray, (u == v) = true → (v == u) = true := fun u v h => by
          have h : (u.data == v.data) = true := h
          have h := eq_of_beq h
          show (v.data == u.data) = true
          rw [h]; exact beq_self_eq_true _
        simpa [Instr.sameBits] using lem _ _ hb
      · simp at hk
    obtain ⟨hs1, hs2⟩ := hs
    cases hb : ki.2.beq x p.1 with
    | true =>
      refine .inr ⟨0, p, e, by simp [mhas, hb], rfl, rfl, by simp [Instr.findNow, hs1, hb], fun z => by simp [mget, hb], fun y => by simp [mset, hb], by simp [mdel, hb], hs2 hb⟩
    | false =>
      rcases findNow_spec hd hk hx h.2 (i + 1) with ⟨h1, h2, h3, h4, h5⟩ | ⟨j, p', e', h0, h1, h2, h3, h4, h5, h6, h7⟩
      · exact .inl ⟨by simp [mhas, hb, h1], by simp [Instr.findNow, hs1, hb, h2], fun z => by simp [mget, hb, h3], fun y => by simp [mset, hb, h4], by simp [mdel, hb, h5]⟩
      · refine .inr ⟨j + 1, p', e', by simp [mhas, h0], by simpa using h1, by simpa using h2, by simp [Instr.findNow, hs1, hb, h3]; omega, fun z => by simp [mget, hb, h4], fun y => by simp [mset, hb, h5], by simp [mdel, hb, h6], h7⟩

theorem run_findKey {P : Program} {w : World} {kt : TypeId} {d : TypeDesc} (hd : P.underlying kt = some d) {kv : Value} {l : List MapEntry} {r : Option (Nat × Value)} (h : Instr.findNow d kv l 0 = some r) : (Instr.findKey kt kv l).run P w = .ok r w := by
  simp [Instr.findKey, Sem.run_bind, run_underlying' hd, h]

theorem keyOkS_desc {P : Program} {kt : TypeId} {ki : Bool × K} (hk : keyOkS P kt ki = true) : ∃ d, P.underlying kt = some d := by
  unfold keyOkS at hk
  split at hk
  · exact ⟨_, by assumption⟩
  · exact ⟨_, by assumption⟩
  · exact ⟨_, by assumption⟩
  · simp at hk

def K.plain : K → Bool
  | .int _ | .bool => true
  | .pair a b => a.plain && b.plain
  | _ => false

theorem K.plain_flat : ∀ {k : K}, k.plain = true → k.flat = true
  | .int _, _ => rfl
  | .bool, _ => rfl
  | .pair a b, h => by
    simp only [K.plain, Bool.and_eq_true] at h
    simp [K.flat, K.plain_flat h.1, K.plain_flat h.2]
  | .str, h => by simp [K.plain] at h
  | .unit, h => by simp [K.plain] at h
  | .sl _, h => by simp [K.plain] at h
  | .rp _, h => by simp [K.plain] at h

def K.vals : (k : K) → k.den → List Value
  | .int q, x => [.int q x]
  | .bool, x => [.bool x]
  | .pair a b, x => a.vals x.1 ++ b.vals x.2
  | _, _ => []

theorem K.rd_vals {w : World} {N : Nat → Prop} : ∀ {k : K} {x : k.den} {cs : List Value}, k.plain = true → k.rd w N x cs → cs = k.vals x
  | .int _, _, _, _, h => h
  | .bool, _, _, _, h => h
  | .pair a b, x, cs, hp, h => by
    simp only [K.plain, Bool.and_eq_true] at hp
    obtain ⟨u, v, rfl, h1, h2⟩ := h
    rw [K.rd_vals hp.1 h1, K.rd_vals hp.2 h2]; rfl
  | .str, _, _, hp, _ => by simp [K.plain] at hp
  | .unit, _, _, hp, _ => by simp [K.plain] at hp
  | .sl _, _, _, hp, _ => by simp [K.plain] at hp
  | .rp _, _, _, hp, _ => by simp [K.plain] at hp

theorem K.cells_len (fr : Bool) : ∀ (k : K) (x : k.den), (k.cells fr x).length = k.size
  | .pair a b, x => by simp [K.cells, K.size, K.cells_len fr a, K.cells_len fr b]
  | .unit, _ => rfl
  | .int _, _ => rfl
  | .bool, _ => rfl
  | .str, _ => rfl
  | .sl _, _ => rfl
  | .rp _, _ => rfl
  | .ar n k, xs => by
    show (List.flatMap (fun i => K.cells fr k (List.getD (show List k.den from xs) i k.dflt)) (List.range n)).length = n * k.size
    have go : ∀ m, (List.flatMap (fun i => K.cells fr k (List.getD (show List k.den from xs) i k.dflt)) (List.range m)).length = m * k.size := by
      intro m
      induction m with
      | zero => simp
      | succ m ih => rw [List.range_succ, List.flatMap_append, List.length_append, ih]; simp [K.cells_len fr k, Nat.add_mul]
    exact go n

theorem K.beq_eq : ∀ {k : K} {x y : k.den}, k.plain = true → k.beq x y = true → x = y
  | .int _, _, _, _, h => by simpa [K.beq] using h
  | .bool, _, _, _, h => by simpa [K.beq] using h
  | .pair a b, x, y, hp, h => by
    simp only [K.plain, Bool.and_eq_true] at hp
    simp only [K.beq, Bool.and_eq_true] at h
    exact Prod.ext (K.beq_eq hp.1 h.1) (K.beq_eq hp.2 h.2)
  | .str, _, _, hp, _ => by simp [K.plain] at hp
  | .unit, _, _, hp, _ => by simp [K.plain] at hp
  | .sl _, _, _, hp, _ => by simp [K.plain] at hp
  | .rp _, _, _, hp, _ => by simp [K.plain] at hp

theorem K.vals_bits {n : Nat} : ∀ {k : K} (x : k.den), ∀ v ∈ k.vals x, Instr.sameBits n v v = true
  | .int _, x, v, h => by obtain rfl : v = _ := by simpa [K.vals] using h
                          cases n <;> simp [Instr.sameBits]
  | .bool, x, v, h => by obtain rfl : v = _ := by simpa [K.vals] using h
                         cases n <;> simp [Instr.sameBits]
  | .pair a b, x, v, h => by
    rcases List.mem_append.1 h with h | h
    · exact K.vals_bits x.1 v h
    · exact K.vals_bits x.2 v h
  | .str, _, _, h => by simp [K.vals] at h
  | .unit, _, _, h => by simp [K.vals] at h
  | .sl _, _, _, h => by simp [K.vals] at h
  | .rp _, _, _, h => by simp [K.vals] at h

theorem sameBits_agg {n : Nat} {l : List Value} (h : ∀ v ∈ l, Instr.sameBits n v v = true) : Instr.sameBits (n + 1) (.agg l.toArray) (.agg l.toArray) = true := by
  simp only [Instr.sameBits, beq_self_eq_true, Bool.true_and, List.all_eq_true]
  intro p hp
  obtain ⟨i, hi, e⟩ := List.mem_iff_getElem.1 hp
  simp at e hi
  subst e
  exact h _ (List.getElem_mem _)

theorem cut_field {P : Program} {t : TypeId} {d : TypeDesc} (hd : P.underlying t = some d) {a : K} (hi : (P.info? t).map (·.size) = some a.size) (fr : Bool) (x : a.den) (pre post : List AV) {off : Nat} (ho : pre.length = off) {tv : TV}
    (hs : shapeTV (isAggT P t) (a.cells fr x) = some tv) : cut P t (pre ++ a.cells fr x ++ post) off some = some tv := by
  obtain ⟨i, hi1, hi2⟩ := Option.map_eq_some_iff.1 hi
  unfold cut
  simp only [hd, hi1]
  have e : ((pre ++ a.cells fr x ++ post).drop off).take i.size = a.cells fr x := by
    rw [← ho, List.append_assoc, List.drop_left, hi2, ← K.cells_len fr a x, List.take_left]
  rw [e, if_pos (by rw [K.cells_len, hi2]), hs]

def KeyGood (P : Program) (n : Nat) (t : TypeId) (k : K) : Prop :=
  k.plain = true ∧ (∃ d, P.underlying t = some d) ∧ ∀ (fr fr' : Bool) (x y : k.den), ∃ a b, shapeTV (isAggT P t) (k.cells fr x) = some a ∧ shapeTV (isAggT P t) (k.cells fr' y) = some b ∧ aeq P n t a b = some (k.beq x y)

theorem keyFs_plain {P : Program} {f : TypeId → K → Bool} (hf : ∀ t k, f t k = true → k.plain = true) : ∀ (fs : List Field) (off : Nat) (k : K), keyFs P f fs off k = true → k.plain = true
  | [], _, _, h => by simp [keyFs] at h
  | [g], off, k, h => by
    simp only [keyFs, Bool.and_eq_true] at h
    exact hf _ _ h.2.2
  | g :: g' :: r, off, k, h => by
    cases k <;> simp only [keyFs, Bool.and_eq_true, Bool.false_eq_true] at h
    simp only [K.plain, Bool.and_eq_true]
    exact ⟨hf _ _ h.1.2.2, keyFs_plain hf _ _ _ h.2⟩

theorem keyFs_aeq {P : Program} {n : Nat} {f : TypeId → K → Bool} (hf : ∀ t k, f t k = true → KeyGood P n t k) : ∀ (fs : List Field) (off : Nat) (k : K), keyFs P f fs off k = true →
    ∀ (fr fr' : Bool) (x y : k.den) (pre pre' : List AV), pre.length = off → pre'.length = off → aeqFields P (aeq P n) (pre ++ k.cells fr x) (pre' ++ k.cells fr' y) fs = some (k.beq x y)
  | [], _, _, h => by simp [keyFs] at h
  | [g], off, k, h => by
    intro fr fr' x y pre pre' hp hp'
    simp only [keyFs, Bool.and_eq_true, bne_iff_ne, ne_eq, beq_iff_eq] at h
    obtain ⟨⟨h1, h2⟩, h3, h4⟩ := h
    obtain ⟨_, ⟨d, hd⟩, hg⟩ := hf _ _ h4
    obtain ⟨a, b, ha, hb, he⟩ := hg fr fr' x y
    have c1 := cut_field hd h3 fr x pre [] hp ha
    have c2 := cut_field hd h3 fr' y pre' [] hp' hb
    rw [List.append_nil] at c1 c2
    unfold aeqFields
    rw [if_neg h1, h2, c1, c2]
    simp only [he]
  | g :: g' :: r, off, k, h => by
    intro fr fr' x y pre pre' hp hp'
    cases k <;> simp only [keyFs, Bool.and_eq_true, Bool.false_eq_true, bne_iff_ne, ne_eq, beq_iff_eq] at h
    rename_i ka kb
    obtain ⟨⟨⟨h1, h2⟩, h3, h4⟩, h5⟩ := h
    obtain ⟨_, ⟨d, hd⟩, hg⟩ := hf _ _ h4
    obtain ⟨a, b, ha, hb, he⟩ := hg fr fr' x.1 y.1
    have c1 := cut_field hd h3 fr x.1 pre (kb.cells fr x.2) hp ha
    have c2 := cut_field hd h3 fr' y.1 pre' (kb.cells fr' y.2) hp' hb
    have ih := keyFs_aeq hf (g' :: r) _ kb h5 fr fr' x.2 y.2 (pre ++ ka.cells fr x.1) (pre' ++ ka.cells fr' y.1) (by simp [hp, K.cells_len]) (by simp [hp', K.cells_len])
    unfold aeqFields
    simp only [K.cells, ← List.append_assoc]
    rw [if_neg h1, h2, c1, c2]
    simp only [he, ih, K.beq]

theorem keyEq_good {P : Program} : ∀ (n : Nat) (t : TypeId) (k : K), keyEq P n t k = true → KeyGood P n t k
  | 0, _, _, h => by simp [keyEq] at h
  | n + 1, t, k, h => by
    unfold keyEq at h
    split at h
    · rename_i q hu
      split at h
      · rename_i q'
        obtain rfl : q = q' := by simpa using h
        refine ⟨rfl, ⟨_, hu⟩, fun fr fr' x y => ⟨.one (.dat (.int q) x true), .one (.dat (.int q) y true), by simp [isAggT, hu, shapeTV, K.cells], by simp [isAggT, hu, shapeTV, K.cells], ?_⟩⟩
        simp [aeq, hu, K.beq]
      · simp at h
    · rename_i hu
      split at h
      · refine ⟨rfl, ⟨_, hu⟩, fun fr fr' x y => ⟨.one (.dat .bool x true), .one (.dat .bool y true), by simp [isAggT, hu, shapeTV, K.cells], by simp [isAggT, hu, shapeTV, K.cells], ?_⟩⟩
        simp [aeq, hu, K.beq]
      · simp at h
    · rename_i fs hu
      simp only [Bool.and_eq_true, Bool.not_eq_true'] at h
      refine ⟨keyFs_plain (fun t k h => (keyEq_good n t k h).1) _ _ _ h.2, ⟨_, hu⟩, fun fr fr' x y => ⟨.agg (k.cells fr x), .agg (k.cells fr' y), by simp [isAggT, hu, shapeTV], by simp [isAggT, hu, shapeTV], ?_⟩⟩
      have := keyFs_aeq (fun t k h => keyEq_good n t k h) _ _ _ h.2 fr fr' x y [] [] rfl rfl
      simp only [aeq, hu, h.1, Bool.false_eq_true, if_false]
      exact this
    · simp at h

theorem keyFs_each {P : Program} {f : TypeId → K → Bool} {w : World} {N Nf : Nat → Prop} {β : List Bl} {fr : Bool} (hf : ∀ t k, f t k = true → (∃ d, P.underlying t = some d) ∧ ∀ x : k.den, ∃ a, shapeTV (isAggT P t) (k.cells fr x) = some a) :
    ∀ (fs : List Field) (off : Nat) (k : K), keyFs P f fs off k = true → ∀ (x : k.den) (pre : List AV) (vs : List Value), pre.length = off → All2 (AV.R w N Nf β) (pre ++ k.cells fr x) vs →
      ∀ g ∈ fs, g.name ≠ "_" ∧ ∃ (q : K) (y : q.den) (tv : TV) (u : Value), f g.type q = true ∧ shapeTV (isAggT P g.type) (q.cells fr y) = some tv ∧ (part g.type vs.toArray g.offset).run P w = .ok u w ∧ tv.R w N Nf β u
  | [], _, _, h => by simp [keyFs] at h
  | [g], off, k, h => by
    intro x pre vs hp hR g0 hg0
    obtain rfl : g0 = g := by simpa using hg0
    simp only [keyFs, Bool.and_eq_true, bne_iff_ne, ne_eq, beq_iff_eq] at h
    obtain ⟨⟨h1, h2⟩, h3, h4⟩ := h
    obtain ⟨⟨d, hd⟩, hg⟩ := hf _ _ h4
    obtain ⟨a, ha⟩ := hg x
    have c1 := cut_field hd h3 fr x pre [] hp ha
    rw [List.append_nil] at c1
    obtain ⟨u, hu, hur⟩ := cut_part c1 hR
    exact ⟨h1, k, x, a, u, h4, ha, h2 ▸ hu, hur⟩
  | g :: g' :: r, off, k, h => by
    intro x pre vs hp hR g0 hg0
    cases k <;> simp only [keyFs, Bool.and_eq_true, Bool.false_eq_true, bne_iff_ne, ne_eq, beq_iff_eq] at h
    rename_i ka kb
    obtain ⟨⟨⟨h1, h2⟩, h3, h4⟩, h5⟩ := h
    simp only [K.cells, ← List.append_assoc] at hR
    rcases List.mem_cons.1 hg0 with rfl | hg0
    · obtain ⟨⟨d, hd⟩, hg⟩ := hf _ _ h4
      obtain ⟨a, ha⟩ := hg x.1
      have c1 := cut_field hd h3 fr x.1 pre (kb.cells fr x.2) hp ha
      obtain ⟨u, hu, hur⟩ := cut_part c1 hR
      exact ⟨h1, ka, x.1, a, u, h4, ha, h2 ▸ hu, hur⟩
    · exact keyFs_each hf (g' :: r) _ kb h5 x.2 (pre ++ ka.cells fr x.1) vs (by simp [hp, K.cells_len]) hR g0 hg0

theorem keyEq_check {P : Program} {w : World} {N Nf : Nat → Prop} {β : List Bl} (em : Bool) (d : Nat) : ∀ (n : Nat) (t : TypeId) (k : K), keyEq P n t k = true → ∀ (fr : Bool) (x : k.den) (tv : TV) (v : Value), shapeTV (isAggT P t) (k.cells fr x) = some tv → tv.R w N Nf β v →
    (Instr.checkKey em (n + d) t v).run P w = .ok () w
  | 0, _, _, h => by simp [keyEq] at h
  | n + 1, t, k, h => by
    intro fr x tv v hs hv
    have h0 := h
    unfold keyEq at h
    rw [show n + 1 + d = (n + d) + 1 by omega]
    split at h
    · rename_i q hu
      simp [Instr.checkKey, run_underlying' hu]
    · rename_i hu
      simp [Instr.checkKey, run_underlying' hu]
    · rename_i fs hu
      simp only [Bool.and_eq_true, Bool.not_eq_true'] at h
      have hagg : isAggT P t = true := by simp [isAggT, hu]
      rw [hagg] at hs
      simp only [shapeTV, Option.some.injEq] at hs
      subst hs
      obtain ⟨vs, rfl, hR⟩ := hv
      have each := keyFs_each (fr := fr) (fun t k h => ⟨(keyEq_good n t k h).2.1, fun x => by obtain ⟨a, _, ha, _⟩ := (keyEq_good n t k h).2.2 fr fr x x; exact ⟨a, ha⟩⟩) fs.toList 0 k h.2 x [] vs rfl hR
      rw [Instr.checkKey]
      simp only [Sem.run_bind, run_underlying' hu, Result.andThen_ok]
      rw [← Array.forIn_toList]
      generalize fs.toList = L at each
      induction L with
      | nil => simp
      | cons f L ih =>
        obtain ⟨hn, q, y, tv, u, hf, hq, hu, hur⟩ := each f (by simp)
        have p2 := keyEq_check em d n f.type q hf fr y tv u hq hur
        simp only [List.forIn_cons, Sem.run_bind, hn, ne_eq, not_false_eq_true, if_true, Result.andThen_ok, hu, p2, Sem.run_pure]
        exact ih (fun y hy => each y (by simp [hy]))
    · simp at h

theorem keyOkW_some {P : Program} {kt : TypeId} {ki : Bool × K} (h : keyOkW P kt ki = true) : ∃ fs, P.underlying kt = some (.struct fs) ∧ ki.1 = true ∧ keyEq P 8 kt ki.2 = true := by
  unfold keyOkW at h
  split at h
  · rename_i fs q hu
    exact ⟨fs, hu, rfl, h⟩
  · simp at h

theorem keyW_val {P : Program} {w : World} {N : Nat → Prop} {kt : TypeId} {ki : Bool × K} (h : keyOkW P kt ki = true) {x : ki.2.den} {kv : Value} (hx : valR w N ki x kv) : kv = .agg (ki.2.vals x).toArray ∧ ∀ N' : Nat → Prop, All2 (AV.R w N' N' []) (ki.2.cells true x) (ki.2.vals x) := by
  obtain ⟨fs, hu, h1, h2⟩ := keyOkW_some h
  obtain ⟨ka, kk⟩ := ki
  simp only at h1
  subst h1
  obtain ⟨cs, rfl, hcs⟩ := hx
  have := K.rd_vals (keyEq_good 8 _ _ h2).1 hcs
  subst this
  exact ⟨rfl, fun N' => K.cells_R true kk x _ (K.rd_flat _ _ _ (K.plain_flat (keyEq_good 8 _ _ h2).1) hcs)⟩

theorem keyW_equal {P : Program} {w : World} {N M : Nat → Prop} {kt : TypeId} {ki : Bool × K} (h : keyOkW P kt ki = true) {x y : ki.2.den} {u v : Value} (hx : valR w N ki x u) (hy : valR w M ki y v) :
    (Op.equal kt u v).run P w = .ok (ki.2.beq x y) w ∧ (ki.2.beq x y = true → Instr.sameBits 10000 v u = true) := by
  obtain ⟨fs, hu, h1, h2⟩ := keyOkW_some h
  obtain ⟨e1, r1⟩ := keyW_val h hx
  obtain ⟨e2, r2⟩ := keyW_val h hy
  obtain ⟨hp, _, hg⟩ := keyEq_good 8 _ _ h2
  constructor
  · obtain ⟨a, b, ha, hb, he⟩ := hg true true x y
    have hagg : isAggT P kt = true := by simp [isAggT, hu]
    rw [hagg] at ha hb
    simp only [shapeTV, Option.some.injEq] at ha hb
    subst ha; subst hb
    have r1' : (TV.agg (ki.2.cells true x)).R w (fun _ => True) (fun _ => True) [] u := ⟨_, e1, r1 _⟩
    have r2' : (TV.agg (ki.2.cells true y)).R w (fun _ => True) (fun _ => True) [] v := ⟨_, e2, r2 _⟩
    exact aeq_sound 8 9992 kt _ _ u v _ he r1' r2'
  · intro hb
    obtain rfl := K.beq_eq hp hb
    rw [e1, e2]
    exact sameBits_agg (fun v hv => K.vals_bits x v hv)

theorem findAsking_spec {P : Program} {w : World} {N : Nat → Prop} {kt : TypeId} {ki vi : Bool × K} (hk : keyOkW P kt ki = true) {x : ki.2.den} {kv : Value} (hx : valR w N ki x kv) :
    ∀ {es : List (ki.2.den × vi.2.den)} {l : List MapEntry} {M : Nat → Prop}, All2 (entR w M ki vi) es l → ∀ i,
      (mhas ki es x = false ∧ (Instr.findAsking kt kv l i).run P w = .ok none w ∧ (∀ z, mget ki es x z = z) ∧ (∀ y, mset ki es x y = es ++ [(x, y)]) ∧ mdel ki es x = es) ∨
      (∃ j p e, mhas ki es x = true ∧ es[j]? = some p ∧ l[j]? = some e ∧ (Instr.findAsking kt kv l i).run P w = .ok (some (i + j, e.val)) w ∧ (∀ z, mget ki es x z = p.2) ∧ (∀ y, mset ki es x y = es.set j (x, y)) ∧ mdel ki es x = es.eraseIdx j ∧ Instr.sameBits 10000 e.key kv = true)
  | [], [], M, _, i => .inl ⟨rfl, by simp [Instr.findAsking], fun _ => rfl, fun _ => rfl, rfl⟩
  | [], _ :: _, _, h, _ => h.elim
  | _ :: _, [], _, h, _ => h.elim
  | p :: es, e :: l, M, h, i => by
    obtain ⟨hs1, hs2⟩ := keyW_equal hk hx h.1.1
    cases hb : ki.2.beq x p.1 with
    | true =>
      rw [hb] at hs1
      exact .inr ⟨0, p, e, by simp [mhas, hb], rfl, rfl, by simp [Instr.findAsking, Sem.run_bind, hs1], fun z => by simp [mget, hb], fun y => by simp [mset, hb], by simp [mdel, hb], hs2 hb⟩
    | false =>
      rw [hb] at hs1
      rcases findAsking_spec hk hx h.2 (i + 1) with ⟨h1, h2, h3, h4, h5⟩ | ⟨j, p', e', h0, h1, h2, h3, h4, h5, h6, h7⟩
      · exact .inl ⟨by simp [mhas, hb, h1], by simp [Instr.findAsking, Sem.run_bind, hs1, h2], fun z => by simp [mget, hb, h3], fun y => by simp [mset, hb, h4], by simp [mdel, hb, h5]⟩
      · refine .inr ⟨j + 1, p', e', by simp [mhas, h0], by simpa using h1, by simpa using h2, ?_, fun z => by simp [mget, hb, h4], fun y => by simp [mset, hb, h5], by simp [mdel, hb, h6], h7⟩
        simp only [Instr.findAsking, Sem.run_bind, hs1, Result.andThen_ok, Bool.false_eq_true, if_false, h3]
        rw [show i + 1 + j = i + (j + 1) by omega]

theorem findKey_spec {P : Program} {w : World} {N : Nat → Prop} {kt : TypeId} {ki vi : Bool × K} (hk : keyOk P kt ki = true) {x : ki.2.den} {kv : Value} (hx : valR w N ki x kv)
    {es : List (ki.2.den × vi.2.den)} {l : List MapEntry} {M : Nat → Prop} (h : All2 (entR w M ki vi) es l) :
      (mhas ki es x = false ∧ (Instr.findKey kt kv l).run P w = .ok none w ∧ (∀ z, mget ki es x z = z) ∧ (∀ y, mset ki es x y = es ++ [(x, y)]) ∧ mdel ki es x = es) ∨
      (∃ j p e, mhas ki es x = true ∧ es[j]? = some p ∧ l[j]? = some e ∧ (Instr.findKey kt kv l).run P w = .ok (some (j, e.val)) w ∧ (∀ z, mget ki es x z = p.2) ∧ (∀ y, mset ki es x y = es.set j (x, y)) ∧ mdel ki es x = es.eraseIdx j ∧ Instr.sameBits 10000 e.key kv = true) := by
  simp only [keyOk, Bool.or_eq_true] at hk
  rcases hk with hk | hk
  · obtain ⟨d, hd⟩ := keyOkS_desc hk
    rcases findNow_spec hd hk hx h 0 with ⟨h1, h2, h3⟩ | ⟨j, p, e, h1, h2, h3, h4, h5⟩
    · exact .inl ⟨h1, run_findKey hd h2, h3⟩
    · exact .inr ⟨j, p, e, h1, h2, h3, by rw [Nat.zero_add] at h4; exact run_findKey hd h4, h5⟩
  · obtain ⟨fs, hu, -, -⟩ := keyOkW_some hk
    have hrun : (Instr.findKey kt kv l).run P w = (Instr.findAsking kt kv l 0).run P w := by
      cases l with
      | nil => simp [Instr.findKey, Sem.run_bind, run_underlying' hu, Instr.findNow, Instr.findAsking]
      | cons e es => simp [Instr.findKey, Sem.run_bind, run_underlying' hu, Instr.findNow, Instr.sameNow]
    rw [hrun]
    rcases findAsking_spec hk hx h 0 with h1 | ⟨j, p, e, h1, h2, h3, h4, h5⟩
    · exact .inl h1
    · exact .inr ⟨j, p, e, h1, h2, h3, by rw [Nat.zero_add] at h4; exact h4, h5⟩

theorem run_checkKey {P : Program} {w : World} {N : Nat → Prop} {kt : TypeId} {ki : Bool × K} (hk : keyOk P kt ki = true) {x : ki.2.den} {kv : Value} (hx : valR w N ki x kv) (b : Bool) : (Instr.checkKey b 10000 kt kv).run P w = .ok () w := by
  simp only [keyOk, Bool.or_eq_true] at hk
  rcases hk with hk | hk
  · have key : ∀ n, (Instr.checkKey b (n + 1) kt kv).run P w = .ok () w := by
      intro n
      unfold keyOkS at hk
      split at hk
      · rename_i q _ q' e1; simp [Instr.checkKey, run_underlying' e1]
      · rename_i e1; simp [Instr.checkKey, run_underlying' e1]
      · rename_i e1; simp [Instr.checkKey, run_underlying' e1]
      · simp at hk
    exact key 9999
  · obtain ⟨fs, hu, h1, h2⟩ := keyOkW_some hk
    obtain ⟨e1, r1⟩ := keyW_val hk hx
    have hagg : isAggT P kt = true := by simp [isAggT, hu]
    exact keyEq_check (N := N) (Nf := N) (β := []) b 9992 8 kt ki.2 h2 true x (.agg (ki.2.cells true x)) kv (by simp [hagg, shapeTV]) ⟨_, e1, r1 N⟩

theorem keyOk_flat {P : Program} {kt : TypeId} {ki : Bool × K} (hk : keyOk P kt ki = true) : ki.2.flat = true := by
  simp only [keyOk, Bool.or_eq_true] at hk
  rcases hk with hk | hk
  · unfold keyOkS at hk
    split at hk
    · rfl
    · rfl
    · rfl
    · simp at hk
  · obtain ⟨fs, hu, h1, h2⟩ := keyOkW_some hk
    have hp := (keyEq_good 8 _ _ h2).1
    exact K.plain_flat hp

section
variable {P : Program} {C : Cx} {s : AS} {β : List Bl} {a : Act} {w : World}

theorem decT_sound (h : Rel C s β a w) {k : Bool × K} {t : TV} {v : Value} (ht : t.R w (C.N s.heap β w) (C.fresh s.heap β w) β v) {x : k.2.den} {f : Bool} (e : decT s.heap k t = some (x, f)) :
    valR w (if f then C.fresh s.heap β w else C.N s.heap β w) k x v := by
  obtain ⟨ka, kk⟩ := k
  unfold decT at e
  split at e
  · rename_i cs
    obtain ⟨vs, rfl, hc⟩ := ht
    cases ka with
    | true => have := of_sound h hc e; exact ⟨vs, rfl, by cases f <;> exact this⟩
    | false => simp at e
  · rename_i y
    cases ka with
    | true => simp at e
    | false => have := of_sound h (l := [y]) (vs := [v]) ⟨ht, trivial⟩ e; show K.rd _ _ _ _ _; cases f <;> exact this
  · simp at e
  · rename_i q y fr
    cases ka with
    | false => simp at e
    | true =>
      dsimp only at e
      split at e
      rotate_left
      · simp at e
      rename_i hq
      subst hq
      simp only [Option.some.injEq, Prod.mk.injEq] at e
      obtain ⟨rfl, rfl⟩ := e
      obtain ⟨us, hv, hr⟩ := TV.dat_R.1 ht
      exact ⟨us, hv, hr⟩

theorem zeroD_sound (h : Rel C s β a w) {t : TypeId} {k : Bool × K} {z : k.2.den} (e : zeroD P s.heap t k = some z) :
    ∃ zv, (zeroValue t).run P w = .ok zv w ∧ valR w (C.fresh s.heap β w) k z zv := by
  unfold zeroD at e
  split at e
  rotate_left
  · simp at e
  rename_i i hi
  split at e
  rotate_left
  · simp at e
  rename_i zv hzv
  split at e
  rotate_left
  · simp at e
  rename_i zd hzd
  simp only [Option.some.injEq] at e; subst e
  refine ⟨zv, by simp [zeroValue, typeInfo, hi, hzv, Sem.run_bind], ?_⟩
  have := decT_sound h (constTV_R zv) hzd
  exact this

end
end Go.Proofs.AM
end

section
namespace Go.Proofs.AM
open Go Go.RowKit

section
variable {P : Program} {C : Cx} {s : AS} {β : List Bl} {a : Act} {w : World} {R : Type} {F : Fence} {n : Nat} {Q : Exit → Act → World → Prop} {o : Oper}

theorem K.cells_valR {N Nf : Nat → Prop} {k : Bool × K} {fr : Bool} {x : k.2.den} {v : Value} (h : valR w (if fr then Nf else N) k x v) : compR w N Nf β (k.1, k.2.cells fr x) v := by
  obtain ⟨ka, kk⟩ := k
  cases ka with
  | true =>
    obtain ⟨cs, rfl, h⟩ := h
    exact ⟨cs, rfl, K.cells_R fr kk x cs h⟩
  | false =>
    have h : kk.rd w (if fr then Nf else N) x [v] := h
    have hc := K.cells_R (N := N) (Nf := Nf) (β := β) fr kk x [v] h
    show compR w N Nf β (false, K.cells fr kk x) v
    generalize K.cells fr kk x = cc at hc
    match cc, hc with
    | [c], hc => exact hc.1

theorem shape_comp {N Nf : Nat → Prop} {b : Bool} {cs : List AV} {v : Value} (h : compR w N Nf β (b, cs) v) {tv : TV} (e : shapeTV b cs = some tv) : tv.R w N Nf β v := by
  unfold shapeTV at e
  split at e
  · simp only [Option.some.injEq] at e; subst e; exact h
  · simp only [Option.some.injEq] at e; subst e; exact h
  · simp at e

theorem alookup_sound (h : Rel C s β a w) {t : TypeId} {x i : Operand} {ok : Bool} (ho : o.op = .lookup t x i ok) {k : TV → Option R} {r : R} (e : alookup P s.heap t (s.ev x) (s.ev i) ok k = some r) :
    ∃ tv v, k tv = some r ∧ (execOp a.eval o).run P w = .ok (.value v) w ∧ tv.R w (C.N s.heap β w) (C.fresh s.heap β w) β v := by
  unfold alookup at e
  split at e
  rotate_left
  · simp at e
  rename_i kt vt l hu hx
  split at e
  rotate_left
  · simp at e
  rename_i ki vi es fr hob
  split at e
  rotate_left
  · simp at e
  rename_i hk
  split at e
  rotate_left
  · simp at e
  rename_i xk f z hxk hz
  obtain ⟨rr, hr, hv⟩ := h.ev1 hx
  obtain ⟨ff, r0, g1, g2, l0, ck, g3, g4, g5⟩ := h.obj hob (by simp)
  rw [hr] at g2; cases g2
  have hkey := decT_sound h (h.ev i) hxk
  obtain ⟨zv, hzr, hzv⟩ := zeroD_sound h hz
  have hobj : (getObj rr.blk).run P w = .ok (.map l0.toArray ck) w := by simp [getObj, Sem.run, g3]
  have res : ∃ v b, (Instr.lookup t (a.eval x) (a.eval i) ok).run P w = .ok (if ok then .tuple #[v, .bool b] else v) w ∧ b = mhas ki es xk ∧ valR w (if fr then C.fresh s.heap β w else C.N s.heap β w) vi (mget ki es xk z) v := by
    rcases findKey_spec (vi := vi) hk hkey g5 with ⟨h1, h2, h3, _, _⟩ | ⟨j, p, e, h1, h2, h3, h4, h5, _, _, _⟩
    · refine ⟨zv, false, ?_, h1.symm, ?_⟩
      · simp only [Instr.lookup, Sem.run_bind, run_underlying' hu, Result.andThen_ok, hv, hobj, Sem.run_pure, run_checkKey hk hkey, h2, hzr]
      · rw [h3]
        have : valR w (C.fresh s.heap β w) vi z zv := hzv
        cases fr
        · exact valR_mono (fun _ _ => rfl) (fun b hb => Cx.fresh_N hb) this
        · exact this
    · refine ⟨e.val, true, ?_, h1.symm, ?_⟩
      · simp only [Instr.lookup, Sem.run_bind, run_underlying' hu, Result.andThen_ok, hv, hobj, Sem.run_pure, run_checkKey hk hkey, h4]
      · rw [h5]
        obtain ⟨e', he', hp⟩ := All2.get2' g5 h2
        rw [h3] at he'; cases he'
        exact hp.2
  obtain ⟨v, b, hrun, rfl, hvr⟩ := res
  have hex : (execOp a.eval o).run P w = .ok (.value (if ok then .tuple #[v, .bool (mhas ki es xk)] else v)) w := by
    simp only [execOp, ho, Sem.run_bind, hrun, Result.andThen_ok, Sem.run_pure]
  have hcomp := K.cells_valR (β := β) (N := C.N s.heap β w) (Nf := C.fresh s.heap β w) hvr
  cases ok with
  | true => exact ⟨_, _, e, hex, [v, .bool (mhas ki es xk)], rfl, hcomp, rfl, trivial⟩
  | false =>
    simp only [Bool.false_eq_true, if_false] at e
    split at e
    · rename_i tv htv; exact ⟨_, _, e, hex, shape_comp hcomp htv⟩
    · simp at e
end
end Go.Proofs.AM
end

section
namespace Go.Proofs.AM
open Go Go.RowKit

theorem valR_flat {w w' : World} {N N' : Nat → Prop} {k : Bool × K} (hf : k.2.flat = true) {x : k.2.den} {v : Value} (h : valR w N k x v) : valR w' N' k x v := by
  obtain ⟨ka, kk⟩ := k
  cases ka with
  | true => obtain ⟨cs, e, h⟩ := h; exact ⟨cs, e, K.rd_flat _ _ _ hf h⟩
  | false => exact K.rd_flat _ _ _ hf h

theorem Stamps.push {l : List MapEntry} {ck : Nat} (h : Stamps l ck) (k v : Value) : Stamps (l ++ [{ key := k, val := v, born := ck }]) (ck + 1) := by
  refine ⟨fun e he => ?_, ?_⟩
  · rcases List.mem_append.1 he with he | he
    · have := h.lt e he; omega
    · simp at he; subst he; simp
  · rw [List.map_append, List.nodup_append]
    refine ⟨h.nd, by simp, fun a ha b hb => ?_⟩
    simp at hb; subst hb
    obtain ⟨e, he, rfl⟩ := List.mem_map.1 ha
    have := h.lt e he; omega

theorem Stamps.set {l : List MapEntry} {ck : Nat} (h : Stamps l ck) {j : Nat} {e e' : MapEntry} (he : l[j]? = some e) (hb : e'.born = e.born) : Stamps (l.set j e') ck := by
  have hm : (l.set j e').map (·.born) = l.map (·.born) := by
    apply List.ext_getElem?
    intro i
    simp only [List.getElem?_map, List.getElem?_set]
    have hj := (List.getElem?_eq_some_iff.1 he).1
    split
    · rename_i hh; subst hh; have := (List.getElem?_eq_some_iff.1 he).2; simp [hb, hj, this]
    · rfl
  refine ⟨fun x hx => ?_, by rw [hm]; exact h.nd⟩
  have : x.born ∈ (l.set j e').map (·.born) := List.mem_map_of_mem hx
  rw [hm] at this
  obtain ⟨y, hy, hxy⟩ := List.mem_map.1 this
  rw [← hxy]; exact h.lt y hy

theorem Stamps.erase {l : List MapEntry} {ck : Nat} (h : Stamps l ck) (j : Nat) : Stamps (l.eraseIdx j) ck :=
  ⟨fun e he => h.lt e ((List.eraseIdx_sublist l j).subset he), by
    have := (List.eraseIdx_sublist l j).map (fun e : MapEntry => e.born)
    exact this.nodup h.nd⟩

theorem All2.eraseIdx {α β : Type} {R : α → β → Prop} : ∀ {l : List α} {m : List β} (j : Nat), All2 R l m → All2 R (l.eraseIdx j) (m.eraseIdx j)
  | [], [], _, _ => trivial
  | _ :: _, _ :: _, 0, h => h.2
  | _ :: _, _ :: _, j + 1, h => ⟨h.1, All2.eraseIdx j h.2⟩
  | [], _ :: _, _, h => h.elim
  | _ :: _, [], _, h => h.elim

section
variable {P : Program} {C : Cx} {s : AS} {β : List Bl} {a : Act} {w : World} {R : Type} {k : AS → Option R} {r : R} {F : Fence} {n : Nat} {Q : Exit → Act → World → Prop} {o : Oper}

theorem makeMap_step (hF : FW F) (h : Rel C s β a w) {t : TypeId} (ho : o.op = .makeMap t none) (ee : amakeMap P s o t k = some r) :
    o.wpIn F n P a w (After C s β (fun i => o.dst = some i) k r) Q := by
  unfold amakeMap at ee
  split at ee
  rotate_left
  · simp at ee
  split at ee
  rotate_left
  · simp at ee
  rename_i kt vt hu _ _ kk vk _ _
  have hrun : (execOp a.eval o).run P w = .ok (.value (.map (some w.heap.size))) (w.alloc (.map #[] 0)) := by
    simp only [execOp, ho, Option.map_none, Instr.makeMap, Sem.run_bind, run_newObj_alloc, Result.andThen_ok, Sem.run_pure]
  have hnew : (w.alloc (.map #[] 0)).heap[w.heap.size]? = some (.map #[] 0) := World.alloc_heap_new _ _
  obtain ⟨h2, mv⟩ := h.push (Grew.alloc w (.map #[] 0)) (.map (isAggT P kt, kk) (isAggT P vt, vk) [] true) ⟨w.heap.size, 0, 0, 0, 0, true, none, []⟩
    (fun b hb => by simp only [AObj.occ, List.mem_singleton] at hb; subst hb; simp)
    (fun mv hN hNf => ⟨[], 0, hnew, ⟨by simp, by simp⟩, trivial⟩)
  refine wpIn_value hF (by simp [ho]) hrun ⟨_, _, ee, h2.put _ _ _ ?_, (Ext.push _ s β _ _).trans (Ext.put _ _ _ _)⟩
  exact ⟨⟨w.heap.size, 0, 0, 0, 0, true, none, []⟩, by rw [← h.bsize]; simp, rfl⟩

theorem map_turn (h : Rel C s β a w) {l : Nat} {ki vi : Bool × K} {es es' : List (ki.2.den × vi.2.den)} {fr fr' : Bool} {ff : Bool} {rr : Bl} (hf : s.heap[l]? = some (ff, .map ki vi es fr)) (hr : β[l]? = some rr)
    {l0 : List MapEntry} {ck : Nat} (hh : w.heap[rr.blk]? = some (.map l0.toArray ck)) {l1 : List MapEntry} {ck' : Nat} (hst : Stamps l1 ck')
    (hen : ∀ (N' Nf' : Nat → Prop) (w' : World), (∀ b, C.N s.heap β w b → N' b) → (∀ b, C.fresh s.heap β w b → Nf' b) → (∀ b, C.N s.heap β w b → w'.heap[b]? = w.heap[b]?) → All2 (entR w' (if fr' then Nf' else N') ki vi) es' l1) :
    Rel C (s.upd l (.map ki vi es' fr')) β a (w.putObj rr.blk (.map l1.toArray ck')) := by
  have hlt : rr.blk < w.heap.size := (Array.getElem?_eq_some_iff.1 hh).1
  exact (h.upd (w' := w.putObj rr.blk (.map l1.toArray ck')) l _ (.map ki vi es' fr') rr hf hr rfl rfl rfl (by simp [World.putObj]) (fun b _ hb => World.putObj_heap_other (fun e => hb (by simp [AObj.occ, ← e]))) (by simp) (fun b hb => hb)
    (fun mv hN hNf hbl => ⟨l1, ck', World.putObj_heap_same hlt, hst, hen _ _ _ hN hNf hbl⟩)).1

theorem mapUpdate_step (hF : FW F) (h : Rel C s β a w) {t : TypeId} {m i x : Operand} (ho : o.op = .mapUpdate t m i x) (ee : amapUpdate P s t (s.ev m) (s.ev i) (s.ev x) (fun s' => k (s'.put o.dst (.one .junk))) = some r) :
    o.wpIn F n P a w (After C s β (fun i => o.dst = some i) k r) Q := by
  unfold amapUpdate at ee
  split at ee
  rotate_left
  · simp at ee
  rename_i kt vt l hu hm
  split at ee
  rotate_left
  · simp at ee
  rename_i ki vi es fr hob
  split at ee
  rotate_left
  · simp at ee
  rename_i hk
  split at ee
  rotate_left
  · simp at ee
  rename_i xk f1 y f hxk hy
  obtain ⟨rr, hr, hv⟩ := h.ev1 hm
  obtain ⟨ff, r0, g1, g2, l0, ck, g3, g4, g5⟩ := h.obj hob (by simp)
  rw [hr] at g2; cases g2
  have hkey := decT_sound h (h.ev i) hxk
  have hval := decT_sound h (h.ev x) hy
  have hobj : (getObj rr.blk).run P w = .ok (.map l0.toArray ck) w := by simp [getObj, Sem.run, g3]
  have hset : ∀ ob, (setObj rr.blk ob).run P w = .ok () (w.putObj rr.blk ob) := fun ob => by simp [setObj, Sem.run, g3, World.putObj]
  have old : ∀ (N' Nf' : Nat → Prop) (w' : World), (∀ b, C.N s.heap β w b → N' b) → (∀ b, C.fresh s.heap β w b → Nf' b) → (∀ b, C.N s.heap β w b → w'.heap[b]? = w.heap[b]?) →
      All2 (entR w' (if fr && (f || vi.2.flat) then Nf' else N') ki vi) es l0 := fun N' Nf' w' hN hNf hb => g5.mono fun p e hp => by
    cases fr
    · exact entR_mono hb hN hp
    · cases hff : (f || vi.2.flat)
      · exact entR_mono (fun b h => hb b (Cx.fresh_N h)) (fun b h => hN b (Cx.fresh_N h)) hp
      · exact entR_mono (fun b h => hb b (Cx.fresh_N h)) hNf hp
  have new : ∀ (N' Nf' : Nat → Prop) (w' : World), (∀ b, C.N s.heap β w b → N' b) → (∀ b, C.fresh s.heap β w b → Nf' b) → (∀ b, C.N s.heap β w b → w'.heap[b]? = w.heap[b]?) →
      valR w' (if fr && (f || vi.2.flat) then Nf' else N') ki xk (a.eval i) ∧ valR w' (if fr && (f || vi.2.flat) then Nf' else N') vi y (a.eval x) := fun N' Nf' w' hN hNf hb => by
    refine ⟨valR_flat (keyOk_flat hk) hkey, ?_⟩
    cases hfl : vi.2.flat with
    | true => exact valR_flat hfl hval
    | false =>
      cases f with
      | false => rw [Bool.or_false, Bool.and_false]; exact valR_mono hb hN hval
      | true => cases fr with
        | false => exact valR_mono (fun b h => hb b (Cx.fresh_N h)) (fun b h => hN b (Cx.fresh_N h)) hval
        | true => exact valR_mono (fun b h => hb b (Cx.fresh_N h)) hNf hval
  have fin : ∀ (l1 : List MapEntry) (ck' : Nat), (Instr.mapUpdate t (a.eval m) (a.eval i) (a.eval x)).run P w = .ok () (w.putObj rr.blk (.map l1.toArray ck')) → Stamps l1 ck' →
      (∀ (N' Nf' : Nat → Prop) (w' : World), (∀ b, C.N s.heap β w b → N' b) → (∀ b, C.fresh s.heap β w b → Nf' b) → (∀ b, C.N s.heap β w b → w'.heap[b]? = w.heap[b]?) → All2 (entR w' (if fr && (f || vi.2.flat) then Nf' else N') ki vi) (mset ki es xk y) l1) →
      o.wpIn F n P a w (After C s β (fun i => o.dst = some i) k r) Q := fun l1 ck' hrun hst hen => by
    have h2 := map_turn h g1 hr g3 hst hen
    refine wpIn_skip' hF (by simp [ho]) (w' := w.putObj rr.blk (.map l1.toArray ck')) ?_ ⟨_, _, ee, h2.put _ _ _ trivial, (Ext.upd _ s β _ _ (by rw [g1]; simp)).trans (Ext.put _ _ _ _)⟩
    simp only [execOp, ho, Sem.run_bind, hrun, Result.andThen_ok, Sem.run_pure]
  rcases findKey_spec (vi := vi) hk hkey g5 with ⟨_, h2, _, h4, _⟩ | ⟨j, p, e, _, h2, h3, h4, _, h6, _, h8⟩
  · refine fin (l0 ++ [{ key := a.eval i, val := a.eval x, born := ck }]) (ck + 1) ?_ (g4.push _ _) (fun N' Nf' w' hN hNf hb => ?_)
    · simp only [Instr.mapUpdate, Sem.run_bind, run_underlying' hu, Result.andThen_ok, hv, hobj, run_checkKey hk hkey, h2, hset]
      simp
    · rw [h4]; exact (old N' Nf' w' hN hNf hb).app ⟨⟨(new N' Nf' w' hN hNf hb).1, (new N' Nf' w' hN hNf hb).2⟩, trivial⟩
  · refine fin (l0.set j { e with key := a.eval i, val := a.eval x }) ck ?_ (g4.set h3 rfl) (fun N' Nf' w' hN hNf hb => ?_)
    · have hmod : l0.toArray.modify j (fun e => { e with key := a.eval i, val := a.eval x }) = (l0.set j { e with key := a.eval i, val := a.eval x }).toArray := by
        apply Array.ext'
        simp only [Array.toList_modify]
        apply List.ext_getElem?
        intro i'
        rw [List.getElem?_modify, List.getElem?_set]
        have hj := (List.getElem?_eq_some_iff.1 h3).1
        split
        · rename_i hh; subst hh; have h3' := (List.getElem?_eq_some_iff.1 h3).2; simp [hj, h3']
        · simp
      have hstay : (Instr.keyThatStays e.key (a.eval i)).run P w = .ok (a.eval i) w := by simp [Instr.keyThatStays, h8]
      simp only [Instr.mapUpdate, Sem.run_bind, run_underlying' hu, Result.andThen_ok, hv, hobj, run_checkKey hk hkey, h4]
      simp only [List.getElem?_toArray, h3, Option.map_some, Option.getD_some, hstay, Result.andThen_ok, hmod, hset]
    · rw [h6]; exact (old N' Nf' w' hN hNf hb).set j (new N' Nf' w' hN hNf hb)

theorem delete_step (hF : FW F) (h : Rel C s β a w) {c : Call} (ho : o.op = .call c) (hcal : c.callee = .builtin .delete) (ee : adelete P s o c k = some r) :
    o.wpIn F n P a w (After C s β (fun i => o.dst = some i) k r) Q := by
  unfold adelete at ee
  split at ee
  rotate_left
  · simp at ee
  rename_i m i t rest hargs htys
  split at ee
  rotate_left
  · simp at ee
  rename_i kt vt l hu hm
  split at ee
  rotate_left
  · simp at ee
  rename_i ki vi es fr hob
  split at ee
  rotate_left
  · simp at ee
  rename_i hk
  split at ee
  rotate_left
  · simp at ee
  rename_i xk f1 hxk
  obtain ⟨rr, hr, hv⟩ := h.ev1 hm
  obtain ⟨ff, r0, g1, g2, l0, ck, g3, g4, g5⟩ := h.obj hob (by simp)
  rw [hr] at g2; cases g2
  have hkey := decT_sound h (h.ev i) hxk
  have hobj : (getObj rr.blk).run P w = .ok (.map l0.toArray ck) w := by simp [getObj, Sem.run, g3]
  have hset : ∀ ob, (setObj rr.blk ob).run P w = .ok () (w.putObj rr.blk ob) := fun ob => by simp [setObj, Sem.run, g3, World.putObj]
  have hargs' : c.args = #[m, i] := by rw [← Array.toArray_toList (xs := c.args), hargs]
  have ht0 : c.argTypes[0]? = some t := by rw [← Array.getElem?_toList, htys]; rfl
  have old : ∀ (N' Nf' : Nat → Prop) (w' : World), (∀ b, C.N s.heap β w b → N' b) → (∀ b, C.fresh s.heap β w b → Nf' b) → (∀ b, C.N s.heap β w b → w'.heap[b]? = w.heap[b]?) →
      All2 (entR w' (if fr then Nf' else N') ki vi) es l0 := fun N' Nf' w' hN hNf hb => g5.mono fun p e hp => by
    cases fr
    · exact entR_mono hb hN hp
    · exact entR_mono (fun b h => hb b (Cx.fresh_N h)) hNf hp
  have fin : ∀ (l1 : List MapEntry) (ck' : Nat), (Builtin.delete_ c.argTypes o.type #[a.eval m, a.eval i]).run P w = .ok (.tuple #[]) (w.putObj rr.blk (.map l1.toArray ck')) → Stamps l1 ck' →
      (∀ (N' Nf' : Nat → Prop) (w' : World), (∀ b, C.N s.heap β w b → N' b) → (∀ b, C.fresh s.heap β w b → Nf' b) → (∀ b, C.N s.heap β w b → w'.heap[b]? = w.heap[b]?) → All2 (entR w' (if fr then Nf' else N') ki vi) (mdel ki es xk) l1) →
      o.wpIn F n P a w (After C s β (fun i => o.dst = some i) k r) Q := fun l1 ck' hrun hst hen => by
    have h2 := map_turn h g1 hr g3 hst hen
    refine wpIn_value hF (by simp [ho]) (w' := w.putObj rr.blk (.map l1.toArray ck')) (v := .tuple #[]) ?_ ⟨_, _, ee, h2.put _ _ _ ⟨[], rfl, trivial⟩, (Ext.upd _ s β _ _ (by rw [g1]; simp)).trans (Ext.put _ _ _ _)⟩
    simp only [execOp, ho, resolve, hcal, hargs', List.map_toArray, List.map_cons, List.map_nil, Sem.run_bind, Sem.run_pure, Result.andThen_ok, invoke, builtin, hrun]
  rcases findKey_spec (vi := vi) hk hkey g5 with ⟨_, h2, _, _, h5⟩ | ⟨j, p, e, _, h2, h3, h4, _, _, h7, _⟩
  · refine fin l0 ck ?_ g4 (fun N' Nf' w' hN hNf hb => ?_)
    · simp only [Builtin.delete_, ht0, List.getElem?_toArray, List.getElem?_cons_zero, List.getElem?_cons_succ, Sem.run_bind, run_underlying' hu, Result.andThen_ok, hv, hobj, run_checkKey hk hkey, h2, hset, Sem.run_pure]
    · rw [h5]; exact old N' Nf' w' hN hNf hb
  · refine fin (l0.eraseIdx j) ck ?_ (g4.erase j) (fun N' Nf' w' hN hNf hb => ?_)
    · have herase : l0.toArray.eraseIdxIfInBounds j = (l0.eraseIdx j).toArray := by
        apply Array.ext'; simp
      simp only [Builtin.delete_, ht0, List.getElem?_toArray, List.getElem?_cons_zero, List.getElem?_cons_succ, Sem.run_bind, run_underlying' hu, Result.andThen_ok, hv, hobj, run_checkKey hk hkey, h4, herase, hset, Sem.run_pure]
    · rw [h7]; exact (old N' Nf' w' hN hNf hb).eraseIdx j
end
end Go.Proofs.AM
end

section
namespace Go.Proofs.AM
open Go Go.RowKit
open Go.ChangeMaps (setBlock)

theorem filter_erase : ∀ (L : List MapEntry) (j : Nat) (e : MapEntry), (L.map (·.born)).Nodup → L[j]? = some e → L.filter (fun x => !(x.born == e.born)) = L.eraseIdx j
  | [], j, e, _, h => by simp at h
  | x :: L, 0, e, hn, h => by
    simp only [List.getElem?_cons_zero, Option.some.injEq] at h
    subst h
    simp only [List.eraseIdx_zero, List.tail_cons]
    rw [List.filter_cons_of_neg (by simp)]
    rw [List.filter_eq_self]
    intro y hy
    have hn : x.born ∉ L.map (·.born) := (List.nodup_cons.1 hn).1
    have : y.born ≠ x.born := fun e => hn (e ▸ List.mem_map_of_mem hy)
    simpa using this
  | x :: L, j + 1, e, hn, h => by
    simp only [List.getElem?_cons_succ] at h
    have hn' := (List.nodup_cons.1 hn)
    have hmem : e.born ∈ L.map (·.born) := List.mem_map_of_mem (List.mem_of_getElem? h)
    have : x.born ≠ e.born := fun ee => hn'.1 (by show x.born ∈ _; rw [ee]; exact hmem)
    rw [List.filter_cons_of_pos (by simpa using this), List.eraseIdx_cons_succ, filter_erase L j e hn'.2 h]

theorem filter_push (l : List MapEntry) (seen : Array Nat) (b : Nat) : (l.filter fun e => !(seen.push b).contains e.born) = (l.filter fun e => !seen.contains e.born).filter fun x => !(x.born == b) := by
  rw [List.filter_filter]
  congr 1
  funext e
  simp [Array.contains_push, Bool.and_comm]
  cases decide (e.born ∈ seen) <;> simp
  by_cases h : e.born = b <;> simp [h]

section
variable {P : Program} {C : Cx} {s : AS} {β : List Bl} {a : Act} {w : World}

theorem Rel.walk_next (h : Rel C s β a w) {l m : Nat} {k v : Bool × K} {es left : List (k.2.den × v.2.den)} {cur : Option (k.2.den × v.2.den)} {fr f : Bool} (hl : s.heap[l]? = some (f, .walk m k v es left cur fr))
    {rr : Bl} (hr : β[l]? = some rr) (ty : TypeId) :
    (left = [] ∧ (Instr.next (.pointer (some ⟨rr.blk, 0, none⟩)) false ty).run P w = .ok (.tuple #[.bool false]) w) ∨
    ∃ (j : Nat) (p : k.2.den × v.2.den) (w' : World) (kv vv : Value), left[j]? = some p ∧ (Instr.next (.pointer (some ⟨rr.blk, 0, none⟩)) false ty).run P w = .ok (.tuple #[.bool true, kv, vv]) w' ∧
      Rel C { s with heap := s.heap.set l (true, .walk m k v es (left.eraseIdx j) (some p) fr) } β a w' ∧
      TV.R w' (C.N (s.heap.set l (true, .walk m k v es (left.eraseIdx j) (some p) fr)) β w') (C.fresh (s.heap.set l (true, .walk m k v es (left.eraseIdx j) (some p) fr)) β w') β
        (.tup [(false, [.dat .bool true true]), (k.1, k.2.cells fr p.1), (v.1, v.2.cells fr p.2)]) (.tuple #[.bool true, kv, vv]) := by
  obtain ⟨l0, ck, seen, rm, h1, h2, h3, h4, h5, h6, h7, h8, h9⟩ := h.ob l _ rr hl hr
  rcases run_next_at (P := P) w ty rr.blk rr.base ck ck seen l0.toArray ck h2 h1 (fun x hx => h6.lt x (by simpa using hx)) (Nat.le_refl _) with ⟨q1, q2⟩ | ⟨e, he, w1, hw1, hrun⟩
  · refine .inl ⟨?_, q2⟩
    have : (l0.filter fun e => !seen.contains e.born).length = 0 := by simpa [leftOf] using q1
    have := All2.len h8
    exact List.length_eq_zero_iff.1 (by omega)
  · right
    have he' : e ∈ l0.filter fun e => !seen.contains e.born := by simpa [leftOf] using he
    obtain ⟨j, hj⟩ := List.mem_iff_getElem?.1 he'
    have hjl := (List.getElem?_eq_some_iff.1 hj).1
    obtain ⟨p, hp⟩ : ∃ p, left[j]? = some p := ⟨_, List.getElem?_eq_getElem (by rw [All2.len h8]; exact hjl)⟩
    obtain ⟨e2, he2, hpe⟩ := h8.get hp
    rw [hj] at he2; cases he2
    have hlt : rr.blk < w.heap.size := (Array.getElem?_eq_some_iff.1 h2).1
    have fw : (setBlock w1 rr.blk (.mapIter (some rr.base) ck (seen.push e.born) ck)).os = w.os ∧ (setBlock w1 rr.blk (.mapIter (some rr.base) ck (seen.push e.born) ck)).tape = w.tape ∧ (setBlock w1 rr.blk (.mapIter (some rr.base) ck (seen.push e.born) ck)).output = w.output ∧
        (setBlock w1 rr.blk (.mapIter (some rr.base) ck (seen.push e.born) ck)).heap.size = w.heap.size ∧ (setBlock w1 rr.blk (.mapIter (some rr.base) ck (seen.push e.born) ck)).heap[rr.blk]? = some (.mapIter (some rr.base) ck (seen.push e.born) ck) ∧
        ∀ b, b ≠ rr.blk → (setBlock w1 rr.blk (.mapIter (some rr.base) ck (seen.push e.born) ck)).heap[b]? = w.heap[b]? := by
      have hh : w1.heap = w.heap ∧ w1.os = w.os ∧ w1.tape = w.tape ∧ w1.output = w.output := by rcases hw1 with rfl | rfl <;> exact ⟨rfl, rfl, rfl, rfl⟩
      refine ⟨hh.2.1, hh.2.2.1, hh.2.2.2, ?_, ?_, fun b hb => ?_⟩
      · simp [setBlock, hh.1]
      · simp [setBlock, hh.1, hlt]
      · simp only [setBlock, hh.1]; rw [Array.getElem?_setIfInBounds_ne (Ne.symm hb)]
    have fd : w.drawn ≤ (setBlock w1 rr.blk (.mapIter (some rr.base) ck (seen.push e.born) ck)).drawn := by rcases hw1 with rfl | rfl <;> first | exact Nat.le_refl _ | exact Nat.le_succ _
    generalize setBlock w1 rr.blk (.mapIter (some rr.base) ck (seen.push e.born) ck) = w' at hrun fw fd
    obtain ⟨f1, f2, f3, f4, f5, f6⟩ := fw
    obtain ⟨hrel, mv⟩ := h.upd (hdr := fd) (w' := w') l _ (.walk m k v es (left.eraseIdx j) (some p) fr) rr hl hr f1 f2 f3 (by omega) (fun b _ hb => f6 b (fun e => hb (by simp [AObj.occ, e]))) (by simp) (fun b hb => hb)
      (fun mv hN hNf hbl => by
        have mono : ∀ (x : k.2.den × v.2.den) (y : MapEntry), entR w (if fr then C.fresh s.heap β w else C.N s.heap β w) k v x y → entR w' (if fr then C.fresh (s.heap.set l (true, .walk m k v es (left.eraseIdx j) (some p) fr)) β w' else C.N (s.heap.set l (true, .walk m k v es (left.eraseIdx j) (some p) fr)) β w') k v x y := by
          intro x y hxy
          cases fr
          · exact entR_mono hbl hN hxy
          · exact entR_mono (fun b hb => hbl b (Cx.fresh_N hb)) hNf hxy
        refine ⟨l0, ck, seen.push e.born, rm, by rw [f6 rr.base (Ne.symm h3)]; exact h1, f5, h3, h4, h5, h6, h7.mono mono, ?_, e, (List.mem_filter.1 he').1, by simp, mono _ _ hpe⟩
        rw [filter_push, filter_erase _ j e ?_ hj]
        · exact (h8.eraseIdx j).mono mono
        · exact (List.filter_sublist.map _).nodup h6.nd)
    refine ⟨j, p, w', e.key, e.val, hp, hrun, hrel, ?_⟩
    have hpe' : entR w' (if fr then C.fresh (s.heap.set l (true, .walk m k v es (left.eraseIdx j) (some p) fr)) β w' else C.N (s.heap.set l (true, .walk m k v es (left.eraseIdx j) (some p) fr)) β w') k v p e := by
      have hblN : ∀ b, C.N s.heap β w b → w'.heap[b]? = w.heap[b]? := fun b hb => f6 b (fun e => hb.2.2 l _ rr hl hr (by simp [AObj.occ, e]))
      have free : ∀ b, Free s.heap β b → Free (s.heap.set l (true, .walk m k v es (left.eraseIdx j) (some p) fr)) β b := fun b hf l1 o1 r1 e1 e2 hx => by
        by_cases hh : l = l1
        · subst hh
          simp only [List.getElem?_set_self (List.getElem?_eq_some_iff.1 hl).1, Option.some.injEq] at e1
          subst e1
          rw [hr] at e2; cases e2
          exact hf l _ rr hl hr hx
        · rw [List.getElem?_set_ne hh] at e1
          exact hf l1 o1 r1 e1 e2 hx
      cases fr
      · exact entR_mono hblN (fun b hb => ⟨hb.1, by rw [f4]; exact hb.2.1, free b hb.2.2⟩) hpe
      · exact entR_mono (fun b hb => hblN b (Cx.fresh_N hb)) (fun b hb => ⟨hb.1, by rw [f4]; exact hb.2.1, free b hb.2.2⟩) hpe
    exact ⟨[.bool true, e.key, e.val], rfl, rfl, K.cells_valR hpe'.1, K.cells_valR hpe'.2, trivial⟩

theorem Rel.walk_end (h : Rel C s β a w) {l m : Nat} {k v : Bool × K} {es left : List (k.2.den × v.2.den)} {cur : Option (k.2.den × v.2.den)} {fr f fm : Bool} (hl : s.heap[l]? = some (f, .walk m k v es left cur fr)) (hm : s.heap[m]? = some (fm, .dead)) (f1 f2 : Bool) :
    Rel C { s with heap := (s.heap.set l (f1, .dead)).set m (f2, .map k v es fr) } β a w := by
  have hne : l ≠ m := fun e => by subst e; rw [hl] at hm; simp at hm
  have hll := (List.getElem?_eq_some_iff.1 hl).1
  have hml := (List.getElem?_eq_some_iff.1 hm).1
  obtain ⟨rr, hr⟩ : ∃ r, β[l]? = some r := ⟨_, List.getElem?_eq_getElem (by rw [h.bsize]; exact hll)⟩
  obtain ⟨l0, ck, seen, rm, h1, h2, h3, h4, h5, h6, h7, h8, h9⟩ := h.ob l _ rr hl hr
  have getl : ((s.heap.set l (f1, .dead)).set m (f2, AObj.map k v es fr))[l]? = some (f1, .dead) := by
    rw [List.getElem?_set_ne (Ne.symm hne), List.getElem?_set_self hll]
  have getm : ((s.heap.set l (f1, .dead)).set m (f2, AObj.map k v es fr))[m]? = some (f2, .map k v es fr) := by
    rw [List.getElem?_set_self (by simpa using hml)]
  have geto : ∀ i, i ≠ l → i ≠ m → ((s.heap.set l (f1, .dead)).set m (f2, AObj.map k v es fr))[i]? = s.heap[i]? := fun i h1 h2 => by
    rw [List.getElem?_set_ne (Ne.symm h2), List.getElem?_set_ne (Ne.symm h1)]
  have new : ∀ i, s.heap.length ≤ i → ((s.heap.set l (f1, .dead)).set m (f2, AObj.map k v es fr))[i]? = none := fun i hi => by
    apply List.getElem?_eq_none; simpa using hi
  have := h.gen ((s.heap.set l (f1, .dead)).set m (f2, .map k v es fr)) [] w (fun x => x = l ∨ x = m) rfl rfl rfl (Nat.le_refl _) (by simp)
    (fun i o ho hn => ⟨o, by rw [geto i (fun e => hn (.inl e)) (fun e => hn (.inr e))]; exact ho, rfl⟩)
    (fun i _ hi => by
      rw [geto i (fun e => by subst e; rw [hl] at hi; simp at hi) (fun e => by subst e; rw [hm] at hi; simp at hi)]; exact hi)
    (fun b hb _ => rfl)
    (fun i o r b ho hr' hc hx => by
      rcases hc with (rfl | rfl) | hc
      · rw [getl] at ho; cases ho; simp [AObj.occ] at hx
      · rw [getm] at ho; cases ho
        simp only [List.append_nil] at hr'
        rw [h4] at hr'; cases hr'
        simp only [AObj.occ, List.mem_singleton] at hx
        have hb : b ∈ (AObj.walk i k v es left cur fr).occ rr := by simp [AObj.occ, hx, h5]
        exact ⟨(h.occ l _ rr b hl hr hb).1, .inr ⟨l, _, rr, hl, hr, .inl rfl, hb⟩⟩
      · rw [new i hc] at ho; simp at ho)
    (fun i i' o o' r r' b ho hr1 ho' hr2 hc hc' hx hx' => by
      have key : ∀ i o r, ((s.heap.set l (f1, .dead)).set m (f2, AObj.map k v es fr))[i]? = some o → ((i = l ∨ i = m) ∨ s.heap.length ≤ i) → b ∈ o.2.occ r → i = m := by
        intro i o r ho hc hx
        rcases hc with (rfl | rfl) | hc
        · rw [getl] at ho; cases ho; simp [AObj.occ] at hx
        · rfl
        · rw [new i hc] at ho; simp at ho
      rw [key i o r ho hc hx, key i' o' r' ho' hc' hx'])
    (fun i o r ho hr' hc mv hN hNf hbl => by
      rcases hc with (rfl | rfl) | hc
      · rw [getl] at ho; cases ho; trivial
      · rw [getm] at ho; cases ho
        simp only [List.append_nil] at *
        rw [h4] at hr'; cases hr'
        refine ⟨l0, ck, by rw [h5]; exact h1, h6, h7.mono fun x y hxy => ?_⟩
        cases fr
        · exact entR_mono (fun _ _ => rfl) hN hxy
        · exact entR_mono (fun _ _ => rfl) hNf hxy
      · rw [new i hc] at ho; simp at ho)
  simpa using this.1

theorem Rel.walk_start (h : Rel C s β a w) {m : Nat} {k v : Bool × K} {es : List (k.2.den × v.2.den)} {fr f : Bool} (hm : s.heap[m]? = some (f, .map k v es fr)) {rm : Bl} (hr : β[m]? = some rm) :
    ∃ (ck : Nat) (l0 : List MapEntry), w.heap[rm.blk]? = some (.map l0.toArray ck) ∧
      Rel C { s with heap := s.heap.set m (true, .dead) ++ [(true, .walk m k v es es none fr)] } (β ++ [⟨w.heap.size, rm.blk, 0, 0, 0, true, none, []⟩]) a (w.alloc (.mapIter (some rm.blk) ck #[] ck)) := by
  have hml := (List.getElem?_eq_some_iff.1 hm).1
  obtain ⟨l0, ck, h1, h2, h3⟩ := h.ob m _ rm hm hr
  have hlt : rm.blk < w.heap.size := (Array.getElem?_eq_some_iff.1 h1).1
  refine ⟨ck, l0, h1, ?_⟩
  have hg := Grew.alloc w (.mapIter (some rm.blk) ck #[] ck)
  have hnew : (w.alloc (.mapIter (some rm.blk) ck #[] ck)).heap[w.heap.size]? = some (.mapIter (some rm.blk) ck #[] ck) := World.alloc_heap_new _ _
  have getm : (s.heap.set m (true, .dead) ++ [(true, AObj.walk m k v es es none fr)])[m]? = some (true, .dead) := by
    rw [List.getElem?_append_left (by simpa using hml), List.getElem?_set_self hml]
  have getn : (s.heap.set m (true, .dead) ++ [(true, AObj.walk m k v es es none fr)])[s.heap.length]? = some (true, .walk m k v es es none fr) := by
    rw [List.getElem?_append_right (by simp)]; simp
  have geto : ∀ i, i ≠ m → i < s.heap.length → (s.heap.set m (true, .dead) ++ [(true, AObj.walk m k v es es none fr)])[i]? = s.heap[i]? := fun i h1 h2 => by
    rw [List.getElem?_append_left (by simpa using h2), List.getElem?_set_ne (Ne.symm h1)]
  have only : ∀ i o, (s.heap.set m (true, .dead) ++ [(true, AObj.walk m k v es es none fr)])[i]? = some o → s.heap.length ≤ i → i = s.heap.length := fun i o ho hi => by
    have := (List.getElem?_eq_some_iff.1 ho).1; simp at this; omega
  have hβn : (β ++ [(⟨w.heap.size, rm.blk, 0, 0, 0, true, none, []⟩ : Bl)])[s.heap.length]? = some ⟨w.heap.size, rm.blk, 0, 0, 0, true, none, []⟩ := by rw [← h.bsize]; simp
  exact (h.gen (s.heap.set m (true, .dead) ++ [(true, .walk m k v es es none fr)]) [⟨w.heap.size, rm.blk, 0, 0, 0, true, none, []⟩] _ (fun x => x = m) hg.os hg.tape hg.output hg.size (by simp)
    (fun i o ho hn => ⟨o, by rw [geto i hn (List.getElem?_eq_some_iff.1 ho).1]; exact ho, rfl⟩)
    (fun i _ hi => by
      have hne : i ≠ m := fun e => by subst e; rw [hm] at hi; simp at hi
      rw [geto i hne (List.getElem?_eq_some_iff.1 hi).1]; exact hi)
    (fun b hb _ => hg.block b hb)
    (fun i o r b ho hr' hc hx => by
      rcases hc with rfl | hc
      · rw [getm] at ho; cases ho; simp [AObj.occ] at hx
      · have := only i o ho hc; subst this
        rw [getn] at ho; cases ho
        rw [hβn] at hr'; cases hr'
        simp only [AObj.occ, List.mem_cons, List.not_mem_nil, or_false] at hx
        rcases hx with rfl | rfl
        · exact ⟨by simp, .inl (Nat.le_refl _)⟩
        · exact ⟨by simp; omega, .inr ⟨m, _, rm, hm, hr, rfl, by simp [AObj.occ]⟩⟩)
    (fun i i' o o' r r' b ho hr1 ho' hr2 hc hc' hx hx' => by
      have key : ∀ i o r, (s.heap.set m (true, .dead) ++ [(true, AObj.walk m k v es es none fr)])[i]? = some o → (i = m ∨ s.heap.length ≤ i) → b ∈ o.2.occ r → i = s.heap.length := by
        intro i o r ho hc hx
        rcases hc with rfl | hc
        · rw [getm] at ho; cases ho; simp [AObj.occ] at hx
        · exact only i o ho hc
      rw [key i o r ho hc hx, key i' o' r' ho' hc' hx'])
    (fun i o r ho hr' hc mv hN hNf hbl => by
      rcases hc with rfl | hc
      · rw [getm] at ho; cases ho; trivial
      · have := only i o ho hc; subst this
        rw [getn] at ho; cases ho
        rw [hβn] at hr'; cases hr'
        have mono : All2 (entR (w.alloc (.mapIter (some rm.blk) ck #[] ck)) (if fr then C.fresh (s.heap.set m (true, .dead) ++ [(true, AObj.walk m k v es es none fr)]) (β ++ [⟨w.heap.size, rm.blk, 0, 0, 0, true, none, []⟩]) (w.alloc (.mapIter (some rm.blk) ck #[] ck)) else C.N (s.heap.set m (true, .dead) ++ [(true, AObj.walk m k v es es none fr)]) (β ++ [⟨w.heap.size, rm.blk, 0, 0, 0, true, none, []⟩]) (w.alloc (.mapIter (some rm.blk) ck #[] ck))) k v) es l0 := h3.mono fun x y hxy => by
          cases fr
          · exact entR_mono hbl hN hxy
          · exact entR_mono (fun b hb => hbl b (Cx.fresh_N hb)) hNf hxy
        refine ⟨l0, ck, #[], rm, (hg.block _ hlt).trans h1, hnew, by show w.heap.size ≠ rm.blk; omega, get_app hr, rfl, h2, mono, ?_, rfl⟩
        rw [List.filter_eq_self.2 (by simp)]
        exact mono)).1

variable {R : Type} {k : AS → Option R} {r : R} {F : Fence} {n : Nat} {Q : Exit → Act → World → Prop} {o : Oper}

theorem range_step (hF : FW F) (h : Rel C s β a w) {t : TypeId} {x : Operand} (ho : o.op = .range t x) (ee : arange P s o t (s.ev x) k = some r) :
    o.wpIn F n P a w (After C s β (fun i => o.dst = some i) k r) Q := by
  unfold arange at ee
  split at ee
  rotate_left
  · simp at ee
  rename_i kt vt m hu hx
  split at ee
  rotate_left
  · simp at ee
  rename_i ki vi es fr hob
  obtain ⟨rm, hr, hv⟩ := h.ev1 hx
  obtain ⟨f, hf⟩ := hat_eq hob (by simp)
  obtain ⟨ck, l0, h1, h2⟩ := h.walk_start hf hr
  have hrun : (execOp a.eval o).run P w = .ok (.value (.pointer (some ⟨w.heap.size, 0, none⟩))) (w.alloc (.mapIter (some rm.blk) ck #[] ck)) := by
    simp only [execOp, ho, Instr.range, Sem.run_bind, run_underlying' hu, Result.andThen_ok, hv]
    simp [getObj, Sem.run, Sem.run_bind, h1, Result.andThen, run_newObj_alloc]
  have hml := (List.getElem?_eq_some_iff.1 hf).1
  refine wpIn_value hF (by simp [ho]) hrun ⟨_, _, ee, h2.put _ _ _ ?_, ?_⟩
  · exact ⟨⟨w.heap.size, rm.blk, 0, 0, 0, true, none, []⟩, by rw [← h.bsize]; simp, rfl⟩
  · have hE : Ext (fun i => o.dst = some i) s { s with heap := s.heap.set m (true, .dead) ++ [(true, .walk m ki vi es es none fr)] } β (β ++ [⟨w.heap.size, rm.blk, 0, 0, 0, true, none, []⟩]) := by
      refine ⟨⟨_, rfl⟩, fun _ _ => rfl, rfl, by simp, fun l o hl ho => ?_, ⟨[], rfl⟩, fun l hl => ?_⟩
      · have ho : (s.heap.set m (true, AObj.dead) ++ [(true, AObj.walk m ki vi es es none fr)])[l]? = some (false, o) := ho
        rw [List.getElem?_append_left (by simpa using hl)] at ho
        by_cases e : m = l
        · subst e; rw [List.getElem?_set_self hml] at ho; simp at ho
        · rwa [List.getElem?_set_ne e] at ho
      · have hll := (List.getElem?_eq_some_iff.1 hl).1
        have e : m ≠ l := fun e => by subst e; rw [hf] at hl; simp at hl
        show (s.heap.set m (true, AObj.dead) ++ [(true, AObj.walk m ki vi es es none fr)])[l]? = _
        rw [List.getElem?_append_left (by simpa using hll), List.getElem?_set_ne e]; exact hl
    exact hE.trans (Ext.put _ _ _ _)

theorem aentry_sound (h : Rel C s β a w) {x : Operand} (ho : o.op = .entry x) {k : TV → Option R} (e : aentry s.heap (s.ev x) k = some r) :
    ∃ tv v, k tv = some r ∧ (execOp a.eval o).run P w = .ok (.value v) w ∧ tv.R w (C.N s.heap β w) (C.fresh s.heap β w) β v := by
  unfold aentry at e
  split at e
  rotate_left
  · simp at e
  rename_i l hx
  split at e
  rotate_left
  · simp at e
  rename_i m ki vi es left p fr hob
  obtain ⟨rr, hr, hv⟩ := h.ev1 hx
  obtain ⟨f, r0, g1, g2, l0, ck, seen, rm, h1, h2, h3, h4, h5, h6, h7, h8, h9⟩ := h.obj hob (by simp)
  rw [hr] at g2; cases g2
  obtain ⟨en, he, hs, hp⟩ := h9
  obtain ⟨sn, hsn⟩ : ∃ sn : Array Nat, seen = sn.push en.born := by
    have hb := hs
    rw [Array.back?_eq_some_iff] at hb
    obtain ⟨sn, rfl⟩ := hb
    exact ⟨sn, rfl⟩
  subst hsn
  have hrun := run_entry_at (P := P) w rr.blk rr.base ck sn l0.toArray ck en h2 h1 (by simpa using he) (by simpa using h6.nd)
  refine ⟨_, .tuple #[en.key, en.val], e, ?_, [en.key, en.val], rfl, K.cells_valR hp.1, K.cells_valR hp.2, trivial⟩
  simp only [execOp, ho, hv, Sem.run_bind, hrun, Result.andThen_ok, Sem.run_pure]
end
end Go.Proofs.AM
end

section
namespace Go.Proofs.AM
open Go Go.RowKit

section
variable {P : Program} {C : Cx} {s : AS} {β : List Bl} {a : Act} {w : World}

theorem entR_fl {fr : Bool} {N' Nf' : Nat → Prop} {w' : World} (hN : ∀ b, C.N s.heap β w b → N' b) (hNf : ∀ b, C.fresh s.heap β w b → Nf' b) (hbl : ∀ b, C.N s.heap β w b → w'.heap[b]? = w.heap[b]?) {k v : Bool × K} {x : k.2.den × v.2.den} {y : MapEntry}
    (h : entR w (if fr then C.fresh s.heap β w else C.N s.heap β w) k v x y) : entR w' (if fr then Nf' else N') k v x y := by
  cases fr
  · exact entR_mono hbl hN h
  · exact entR_mono (fun b hb => hbl b (Cx.fresh_N hb)) hNf h

theorem Rel.entry_start (h : Rel C s β a w) {m : Nat} {k v : Bool × K} {es : List (k.2.den × v.2.den)} {fr f : Bool} (hm : s.heap[m]? = some (f, .map k v es fr)) {rm : Bl} (hr : β[m]? = some rm)
    {l1 l2 : List MapEntry} {e : MapEntry} {ck : Nat} {es1 es2 : List (k.2.den × v.2.den)} {x : k.2.den} {g : v.2.den → List (k.2.den × v.2.den)} (hst : Stamps (l1 ++ e :: l2) ck)
    (h1 : All2 (entR w (if fr then C.fresh s.heap β w else C.N s.heap β w) k v) es1 l1) (h2 : All2 (entR w (if fr then C.fresh s.heap β w else C.N s.heap β w) k v) es2 l2) (hkf : k.2.flat = true) (hx : valR w (C.N s.heap β w) k x e.key) (hg : ∀ y, g y = es1 ++ (x, y) :: es2) :
    Rel C { s with heap := s.heap.set m (true, .dead) ++ [(true, .pend m k v x g fr)] } (β ++ [⟨rm.blk, 0, 0, e.born, 0, true, none, []⟩]) a (w.putObj rm.blk (.map (l1 ++ e :: l2).toArray ck)) := by
  have hml := (List.getElem?_eq_some_iff.1 hm).1
  obtain ⟨l0, ck0, q1, q2, q3⟩ := h.ob m _ rm hm hr
  have hlt : rm.blk < w.heap.size := (Array.getElem?_eq_some_iff.1 q1).1
  have getm : (s.heap.set m (true, .dead) ++ [(true, AObj.pend m k v x g fr)])[m]? = some (true, .dead) := by
    rw [List.getElem?_append_left (by simpa using hml), List.getElem?_set_self hml]
  have getn : (s.heap.set m (true, .dead) ++ [(true, AObj.pend m k v x g fr)])[s.heap.length]? = some (true, .pend m k v x g fr) := by
    rw [List.getElem?_append_right (by simp)]; simp
  have geto : ∀ i, i ≠ m → i < s.heap.length → (s.heap.set m (true, .dead) ++ [(true, AObj.pend m k v x g fr)])[i]? = s.heap[i]? := fun i h1 h2 => by
    rw [List.getElem?_append_left (by simpa using h2), List.getElem?_set_ne (Ne.symm h1)]
  have only : ∀ i o, (s.heap.set m (true, .dead) ++ [(true, AObj.pend m k v x g fr)])[i]? = some o → s.heap.length ≤ i → i = s.heap.length := fun i o ho hi => by
    have := (List.getElem?_eq_some_iff.1 ho).1; simp at this; omega
  have hβn : (β ++ [(⟨rm.blk, 0, 0, e.born, 0, true, none, []⟩ : Bl)])[s.heap.length]? = some ⟨rm.blk, 0, 0, e.born, 0, true, none, []⟩ := by rw [← h.bsize]; simp
  exact (h.gen (s.heap.set m (true, .dead) ++ [(true, .pend m k v x g fr)]) [⟨rm.blk, 0, 0, e.born, 0, true, none, []⟩] (w.putObj rm.blk (.map (l1 ++ e :: l2).toArray ck)) (fun x => x = m) rfl rfl rfl (by simp [World.putObj]) (by simp)
    (fun i o ho hn => ⟨o, by rw [geto i hn (List.getElem?_eq_some_iff.1 ho).1]; exact ho, rfl⟩)
    (fun i _ hi => by
      have hne : i ≠ m := fun e => by subst e; rw [hm] at hi; simp at hi
      rw [geto i hne (List.getElem?_eq_some_iff.1 hi).1]; exact hi)
    (fun b hb hc => World.putObj_heap_other (fun e => hc m _ rm hm hr rfl (by simp [AObj.occ, e])))
    (fun i o r b ho hr' hc hx => by
      rcases hc with rfl | hc
      · rw [getm] at ho; cases ho; simp [AObj.occ] at hx
      · have := only i o ho hc; subst this
        rw [getn] at ho; cases ho
        rw [hβn] at hr'; cases hr'
        simp only [AObj.occ, List.mem_singleton] at hx
        subst hx
        exact ⟨by simpa [World.putObj] using hlt, .inr ⟨m, _, rm, hm, hr, rfl, by simp [AObj.occ]⟩⟩)
    (fun i i' o o' r r' b ho hr1 ho' hr2 hc hc' hx hx' => by
      have key : ∀ i o r, (s.heap.set m (true, .dead) ++ [(true, AObj.pend m k v x g fr)])[i]? = some o → (i = m ∨ s.heap.length ≤ i) → b ∈ o.2.occ r → i = s.heap.length := by
        intro i o r ho hc hx
        rcases hc with rfl | hc
        · rw [getm] at ho; cases ho; simp [AObj.occ] at hx
        · exact only i o ho hc
      rw [key i o r ho hc hx, key i' o' r' ho' hc' hx'])
    (fun i o r ho hr' hc mv hN hNf hbl => by
      rcases hc with rfl | hc
      · rw [getm] at ho; cases ho; trivial
      · have := only i o ho hc; subst this
        rw [getn] at ho; cases ho
        rw [hβn] at hr'; cases hr'
        exact ⟨l1, l2, e, ck, es1, es2, rm, World.putObj_heap_same hlt, get_app hr, rfl, hst, rfl, h1.mono fun _ _ hh => entR_fl hN hNf hbl hh, h2.mono fun _ _ hh => entR_fl hN hNf hbl hh, valR_flat hkf hx, hg⟩)).1

theorem Rel.entry_end (h : Rel C s β a w) {l m : Nat} {k v : Bool × K} {x : k.2.den} {g : v.2.den → List (k.2.den × v.2.den)} {fr f fm : Bool} (hl : s.heap[l]? = some (f, .pend m k v x g fr)) (hm : s.heap[m]? = some (fm, .dead)) {rr : Bl} (hr : β[l]? = some rr)
    {l1 : List MapEntry} {ck : Nat} {es : List (k.2.den × v.2.den)} {fr' : Bool} (hst : Stamps l1 ck)
    (hen : ∀ (N' Nf' : Nat → Prop) (w' : World), (∀ b, C.N s.heap β w b → N' b) → (∀ b, C.fresh s.heap β w b → Nf' b) → (∀ b, C.N s.heap β w b → w'.heap[b]? = w.heap[b]?) → All2 (entR w' (if fr' then Nf' else N') k v) es l1) :
    Rel C ((s.upd l .dead).upd m (.map k v es fr')) β a (w.putObj rr.blk (.map l1.toArray ck)) := by
  have hne : l ≠ m := fun e => by subst e; rw [hl] at hm; simp at hm
  have hll := (List.getElem?_eq_some_iff.1 hl).1
  have hml := (List.getElem?_eq_some_iff.1 hm).1
  obtain ⟨k1, k2, e0, ck0, es1, es2, rm, z1, z2, z3, z4, z5, z6, z7, z8, z9⟩ := h.ob l _ rr hl hr
  have hlt : rr.blk < w.heap.size := (Array.getElem?_eq_some_iff.1 z1).1
  have getl : ((s.heap.set l (true, .dead)).set m (true, AObj.map k v es fr'))[l]? = some (true, .dead) := by
    rw [List.getElem?_set_ne (Ne.symm hne), List.getElem?_set_self hll]
  have getm : ((s.heap.set l (true, .dead)).set m (true, AObj.map k v es fr'))[m]? = some (true, .map k v es fr') := by
    rw [List.getElem?_set_self (by simpa using hml)]
  have geto : ∀ i, i ≠ l → i ≠ m → ((s.heap.set l (true, .dead)).set m (true, AObj.map k v es fr'))[i]? = s.heap[i]? := fun i h1 h2 => by
    rw [List.getElem?_set_ne (Ne.symm h2), List.getElem?_set_ne (Ne.symm h1)]
  have new : ∀ i, s.heap.length ≤ i → ((s.heap.set l (true, .dead)).set m (true, AObj.map k v es fr'))[i]? = none := fun i hi => by
    apply List.getElem?_eq_none; simpa using hi
  have := h.gen ((s.heap.set l (true, .dead)).set m (true, .map k v es fr')) [] (w.putObj rr.blk (.map l1.toArray ck)) (fun x => x = l ∨ x = m) rfl rfl rfl (by simp [World.putObj]) (by simp)
    (fun i o ho hn => ⟨o, by rw [geto i (fun e => hn (.inl e)) (fun e => hn (.inr e))]; exact ho, rfl⟩)
    (fun i _ hi => by
      have h1 : i ≠ l := fun e => by subst e; rw [hl] at hi; simp at hi
      have h2 : i ≠ m := fun e => by subst e; rw [hm] at hi; simp at hi
      rw [geto i h1 h2]; exact hi)
    (fun b hb hc => World.putObj_heap_other (fun e => hc l _ rr hl hr (.inl rfl) (by simp [AObj.occ, e])))
    (fun i o r b ho hr' hc hx => by
      rcases hc with (rfl | rfl) | hc
      · rw [getl] at ho; cases ho; simp [AObj.occ] at hx
      · rw [getm] at ho; cases ho
        simp only [List.append_nil] at hr'
        rw [z2] at hr'; cases hr'
        simp only [AObj.occ, List.mem_singleton] at hx
        subst hx
        exact ⟨by rw [z3]; simpa [World.putObj] using hlt, .inr ⟨l, _, rr, hl, hr, .inl rfl, by simp [AObj.occ, z3]⟩⟩
      · rw [new i hc] at ho; simp at ho)
    (fun i i' o o' r r' b ho hr1 ho' hr2 hc hc' hx hx' => by
      have key : ∀ i o r, ((s.heap.set l (true, .dead)).set m (true, AObj.map k v es fr'))[i]? = some o → ((i = l ∨ i = m) ∨ s.heap.length ≤ i) → b ∈ o.2.occ r → i = m := by
        intro i o r ho hc hx
        rcases hc with (rfl | rfl) | hc
        · rw [getl] at ho; cases ho; simp [AObj.occ] at hx
        · rfl
        · rw [new i hc] at ho; simp at ho
      rw [key i o r ho hc hx, key i' o' r' ho' hc' hx'])
    (fun i o r ho hr' hc mv hN hNf hbl => by
      rcases hc with (rfl | rfl) | hc
      · rw [getl] at ho; cases ho; trivial
      · rw [getm] at ho; cases ho
        simp only [List.append_nil] at *
        rw [z2] at hr'; cases hr'
        exact ⟨l1, ck, by rw [z3]; exact World.putObj_heap_same hlt, hst, hen _ _ _ hN hNf hbl⟩
      · rw [new i hc] at ho; simp at ho)
  have h2 := this.1
  rw [List.append_nil] at h2
  exact h2

variable {R : Type} {k : AS → Option R} {r : R} {F : Fence} {n : Nat} {Q : Exit → Act → World → Prop} {o : Oper}

theorem mapEntry_step (hF : FW F) (h : Rel C s β a w) {t : TypeId} {m i : Operand} (ho : o.op = .mapEntry t m i) (ee : amapEntry P s o t (s.ev m) (s.ev i) k = some r) :
    o.wpIn F n P a w (After C s β (fun i => o.dst = some i) k r) Q := by
  unfold amapEntry at ee
  split at ee
  rotate_left
  · simp at ee
  rename_i kt vt l hu hm
  split at ee
  rotate_left
  · simp at ee
  rename_i ki vi es fr z hob hz
  split at ee
  rotate_left
  · simp at ee
  rename_i hk
  split at ee
  rotate_left
  · simp at ee
  rename_i xk f1 hxk
  obtain ⟨rr, hr, hv⟩ := h.ev1 hm
  obtain ⟨ff, r0, g1, g2, l0, ck, g3, g4, g5⟩ := h.obj hob (by simp)
  rw [hr] at g2; cases g2
  have hkey : valR w (C.N s.heap β w) ki xk (a.eval i) := valR_flat (keyOk_flat hk) (decT_sound h (h.ev i) hxk)
  have hml := (List.getElem?_eq_some_iff.1 g1).1
  have hobj : (getObj rr.blk).run P w = .ok (.map l0.toArray ck) w := by simp [getObj, Sem.run, g3]
  have hset : ∀ ob, (setObj rr.blk ob).run P w = .ok () (w.putObj rr.blk ob) := fun ob => by simp [setObj, Sem.run, g3, World.putObj]
  have fin : ∀ (l1 l2 : List MapEntry) (e : MapEntry) (ck' : Nat) (es1 es2 : List (ki.2.den × vi.2.den)) (u : Value), (Instr.mapEntry t (a.eval m) (a.eval i)).run P w = .ok (.tuple #[u, goInt e.born]) (w.putObj rr.blk (.map (l1 ++ e :: l2).toArray ck')) →
      Stamps (l1 ++ e :: l2) ck' → All2 (entR w (if fr then C.fresh s.heap β w else C.N s.heap β w) ki vi) es1 l1 → All2 (entR w (if fr then C.fresh s.heap β w else C.N s.heap β w) ki vi) es2 l2 → valR w (C.N s.heap β w) ki xk e.key →
      (∀ y, mset ki es xk y = es1 ++ (xk, y) :: es2) → o.wpIn F n P a w (After C s β (fun i => o.dst = some i) k r) Q := fun l1 l2 e ck' es1 es2 u hrun hst h1 h2 hx hg => by
    have hrel := h.entry_start g1 hr hst h1 h2 (keyOk_flat hk) hx hg
    refine wpIn_value hF (by simp [ho]) (w' := w.putObj rr.blk (.map (l1 ++ e :: l2).toArray ck')) (v := .tuple #[u, goInt e.born]) (by simp only [execOp, ho, Sem.run_bind, hrun, Result.andThen_ok, Sem.run_pure]) ⟨_, _, ee, hrel.put _ _ _ ?_, ?_⟩
    · exact ⟨[u, goInt e.born], rfl, trivial, ⟨⟨rr.blk, 0, 0, e.born, 0, true, none, []⟩, by rw [← h.bsize]; simp, rfl⟩, trivial⟩
    · have hE : Ext (fun i => o.dst = some i) s { s with heap := s.heap.set l (true, .dead) ++ [(true, .pend l ki vi xk (fun y => mset ki es xk y) fr)] } β (β ++ [⟨rr.blk, 0, 0, e.born, 0, true, none, []⟩]) := by
        refine ⟨⟨_, rfl⟩, fun _ _ => rfl, rfl, by simp, fun i o hl ho => ?_, ⟨[], rfl⟩, fun i hl => ?_⟩
        · have ho : (s.heap.set l (true, AObj.dead) ++ [(true, AObj.pend l ki vi xk (fun y => mset ki es xk y) fr)])[i]? = some (false, o) := ho
          rw [List.getElem?_append_left (by simpa using hl)] at ho
          by_cases e : l = i
          · subst e; rw [List.getElem?_set_self hml] at ho; simp at ho
          · rwa [List.getElem?_set_ne e] at ho
        · have hll := (List.getElem?_eq_some_iff.1 hl).1
          have e : l ≠ i := fun e => by subst e; rw [g1] at hl; simp at hl
          show (s.heap.set l (true, AObj.dead) ++ [(true, AObj.pend l ki vi xk (fun y => mset ki es xk y) fr)])[i]? = _
          rw [List.getElem?_append_left (by simpa using hll), List.getElem?_set_ne e]; exact hl
      exact hE.trans (Ext.put _ _ _ _)
  rcases findKey_spec (vi := vi) hk hkey g5 with ⟨_, h2, _, h4, _⟩ | ⟨j, p, e, _, h2, h3, h4, _, h6, _, h8⟩
  · obtain ⟨inf, zv, hi, hzv, -⟩ := azero_some hz
    refine fin l0 [] { key := a.eval i, val := zv, born := ck } (ck + 1) es [] zv ?_ (g4.push _ _) g5 trivial hkey h4
    simp only [Instr.mapEntry, Sem.run_bind, run_underlying' hu, Result.andThen_ok, hv, hobj, run_checkKey hk hkey, h2, zeroValue, typeInfo, run_program, hi, hzv, Sem.run_pure, hset]
    simp
  · have hj := (List.getElem?_eq_some_iff.1 h3)
    have hsp : ∀ e' : MapEntry, l0.set j e' = l0.take j ++ e' :: l0.drop (j + 1) := fun e' => by
      rw [List.set_eq_take_append_cons_drop, if_pos hj.1]
    have hje := (List.getElem?_eq_some_iff.1 h2)
    have hmod : l0.toArray.modify j (fun e => { e with key := a.eval i }) = (l0.set j { e with key := a.eval i }).toArray := by
      apply Array.ext'
      simp only [Array.toList_modify]
      apply List.ext_getElem?
      intro i'
      rw [List.getElem?_modify, List.getElem?_set]
      split
      · rename_i hh; subst hh; have h3' := hj.2; simp [hj.1, h3']
      · simp
    have hstay : (Instr.keyThatStays e.key (a.eval i)).run P w = .ok (a.eval i) w := by simp [Instr.keyThatStays, h8]
    refine fin (l0.take j) (l0.drop (j + 1)) { e with key := a.eval i } ck (es.take j) (es.drop (j + 1)) e.val ?_ (by rw [← hsp]; exact g4.set h3 rfl) (g5.take j) (g5.drop (j + 1)) hkey (fun y => by rw [h6, List.set_eq_take_append_cons_drop, if_pos hje.1])
    simp only [Instr.mapEntry, Sem.run_bind, run_underlying' hu, Result.andThen_ok, hv, hobj, run_checkKey hk hkey, h4]
    simp only [List.getElem?_toArray, h3, Option.map_some, Option.getD_some, hstay, Result.andThen_ok, hmod, hset, Sem.run_pure, hsp]

theorem find_born : ∀ (l1 : List MapEntry) (e : MapEntry) (l2 : List MapEntry), ((l1 ++ e :: l2).map (·.born)).Nodup → (l1 ++ e :: l2).findIdx? (fun x => (x.born : Int) == (e.born : Int)) = some l1.length
  | [], e, l2, _ => by simp [List.findIdx?_cons]
  | x :: l1, e, l2, h => by
    have hne : x.born ≠ e.born := by
      simp only [List.cons_append, List.map_cons, List.nodup_cons, List.map_append, List.mem_append, List.mem_cons, not_or] at h
      exact h.1.2.1
    have h' : ((l1 ++ e :: l2).map (·.born)).Nodup := by
      simp only [List.cons_append, List.map_cons, List.nodup_cons] at h
      exact h.2
    have hi : ¬ ((x.born : Int) = (e.born : Int)) := by omega
    rw [List.cons_append, List.findIdx?_cons, find_born l1 e l2 h']
    simp [hi]

theorem entryStore_step (hF : FW F) (h : Rel C s β a w) {t : TypeId} {m st x : Operand} (ho : o.op = .entryStore t m st x) (ee : aentryStore s (s.ev m) (s.ev st) (s.ev x) (fun s' => k (s'.put o.dst (.one .junk))) = some r) :
    o.wpIn F n P a w (After C s β (fun i => o.dst = some i) k r) Q := by
  unfold aentryStore at ee
  split at ee
  rotate_left
  · simp at ee
  rename_i l q hm hq
  split at ee
  rotate_left
  · simp at ee
  rename_i m' ki vi xk g fr hob hdead
  split at ee
  rotate_left
  · simp at ee
  rename_i hk
  obtain ⟨rfl, hkf⟩ := hk
  split at ee
  rotate_left
  · simp at ee
  rename_i y f hy
  obtain ⟨rm, hrm, hvm⟩ := h.ev1 hm
  obtain ⟨rq, hrq, hvq⟩ := h.ev1 hq
  obtain ⟨ff, r0, g1, g2, l1, l2, e, ck, es1, es2, rm', z1, z2, z3, z4, z5, z6, z7, z8, z9⟩ := h.obj hob (by simp)
  rw [hrq] at g2; cases g2
  rw [hrm] at z2; cases z2
  have hml : m' < s.heap.length := by rw [← h.bsize]; exact (List.getElem?_eq_some_iff.1 hrm).1
  obtain ⟨fm, hfm⟩ : ∃ fm, s.heap[m']? = some (fm, .dead) := by
    have : hat s.heap m' = .dead := hdead
    unfold hat at this
    rw [List.getElem?_eq_getElem hml] at this ⊢
    exact ⟨(s.heap[m']).1, by simp only at this; rw [← this]⟩
  have hval := decT_sound h (h.ev x) hy
  have hobj : (getObj rq.blk).run P w = .ok (.map (l1 ++ e :: l2).toArray ck) w := by simp [getObj, Sem.run, z1]
  have hset : ∀ ob, (setObj rq.blk ob).run P w = .ok () (w.putObj rq.blk ob) := fun ob => by simp [setObj, Sem.run, z1, World.putObj]
  have hmod : (l1 ++ e :: l2).toArray.modify l1.length (fun e => { e with val := a.eval x }) = (l1 ++ { e with val := a.eval x } :: l2).toArray := by
    apply Array.ext'
    simp only [Array.toList_modify]
    apply List.ext_getElem?
    intro i'
    rw [List.getElem?_modify]
    by_cases h1 : i' < l1.length
    · rw [List.getElem?_append_left h1, List.getElem?_append_left h1]; simp [show ¬ l1.length = i' by omega]
    · by_cases h2 : i' = l1.length
      · subst h2; simp
      · rw [List.getElem?_append_right (by omega), List.getElem?_append_right (by omega)]
        obtain ⟨d, hd⟩ : ∃ d, i' - l1.length = d + 1 := ⟨i' - l1.length - 1, by omega⟩
        rw [hd]; simp [show ¬ l1.length = i' by omega]
  have hst : Stamps (l1 ++ { e with val := a.eval x } :: l2) ck := by
    have := z4.set (j := l1.length) (e := e) (e' := { e with val := a.eval x }) (by simp) rfl
    rwa [List.set_append_right _ _ (Nat.le_refl _), Nat.sub_self, List.set_cons_zero] at this
  have hfind : ((l1 ++ e :: l2).toArray.findIdx? fun y => (y.born : Int) == (rq.n : Int)) = some l1.length := by
    rw [← z5]
    have := find_born l1 e l2 z4.nd
    rw [List.findIdx?_toArray]; exact this
  have hrel := h.entry_end (fr' := fr && (f || vi.2.flat)) (es := g y) g1 hfm hrq hst (fun N' Nf' w' hN hNf hb => by
    rw [z9]
    have key : ∀ p en, entR w (if fr then C.fresh s.heap β w else C.N s.heap β w) ki vi p en → entR w' (if fr && (f || vi.2.flat) then Nf' else N') ki vi p en := fun p en hp => by
      cases fr
      · exact entR_mono hb hN hp
      · cases hff : (f || vi.2.flat)
        · exact entR_mono (fun b h => hb b (Cx.fresh_N h)) (fun b h => hN b (Cx.fresh_N h)) hp
        · exact entR_mono (fun b h => hb b (Cx.fresh_N h)) hNf hp
    refine (z6.mono key).app ⟨⟨valR_flat hkf z8, ?_⟩, z7.mono key⟩
    cases hfl : vi.2.flat with
    | true => exact valR_flat hfl hval
    | false =>
      cases f with
      | false => rw [Bool.or_false, Bool.and_false]; exact valR_mono hb hN hval
      | true => cases fr with
        | false => exact valR_mono (fun b h => hb b (Cx.fresh_N h)) (fun b h => hN b (Cx.fresh_N h)) hval
        | true => exact valR_mono (fun b h => hb b (Cx.fresh_N h)) hNf hval)
  refine wpIn_skip' hF (by simp [ho]) (w' := w.putObj rq.blk (.map (l1 ++ { e with val := a.eval x } :: l2).toArray ck)) ?_ ⟨_, _, ee, hrel.put _ _ _ trivial, ((Ext.upd _ s β _ _ (by rw [g1]; simp)).trans (Ext.upd _ _ β _ _ ?_)).trans (Ext.put _ _ _ _)⟩
  · simp only [execOp, ho, Instr.entryStore, hvm, z3, Sem.run_bind, hobj, Result.andThen_ok, hvq, asInt, asIntOf, Sem.run_pure, Int.ofNat_eq_natCast, hfind, hmod, hset]
  · show (s.heap.set q (true, AObj.dead))[m']? ≠ _
    have hne : q ≠ m' := fun e => by subst e; rw [hfm] at g1; simp at g1
    rw [List.getElem?_set_ne hne, hfm]; simp
end
end Go.Proofs.AM
end

section
namespace Go.Proofs.AM
open Go Go.RowKit

section
variable {P : Program} {C : Cx} {s : AS} {β : List Bl} {a : Act} {w : World} {R : Type} {k : AS → Option R} {r : R} {F : Fence} {n : Nat} {Q : Exit → Act → World → Prop} {o : Oper}

theorem vec_step (hF : FW F) (h : Rel C s β a w) (hd : ∀ c, o.op ≠ .defer c) {e : TypeId} {q : K} {xs : List q.den} {fr : Bool} {mid post : List Value} {cap : Nat}
    (hr : (execOp a.eval o).run P w = .ok (.value (.slice (some ⟨w.heap.size, 0, none⟩) xs.length cap)) (w.alloc (.cells (mid ++ post).toArray e)))
    (hrow : rows (q.rd w (if fr then C.fresh s.heap β w else C.N s.heap β w)) xs mid) (hcap : mid.length + post.length = cap * q.size) (hle : xs.length ≤ cap)
    {im : Bool} (ee : k (s.made im o.dst e q xs fr) = some r) : o.wpIn F n P a w (After C s β (fun i => o.dst = some i) k r) Q := by
  have hnew : (w.alloc (.cells (mid ++ post).toArray e)).heap[w.heap.size]? = some (.cells (mid ++ post).toArray e) := heap_alloc_new w _
  obtain ⟨h2, mv⟩ := h.push (Grew.alloc w (.cells (mid ++ post).toArray e)) (.vec e q xs fr) ⟨w.heap.size, 0, q.size, xs.length, cap, true, none, []⟩ (fun b hb => by simp only [AObj.occ, if_true, List.mem_singleton] at hb; subst hb; simp)
    (fun mv hN hNf => by
      refine ⟨rfl, rfl, hle, ?_⟩
      simp only [if_true]
      refine ⟨[], mid, post, by rw [hnew]; simp, rfl, ?_, hcap⟩
      refine rows_weak (fun b hb => ?_) (fun b hb => ?_) hrow
      · refine (Grew.alloc w _).block b ?_
        cases fr
        · exact hb.2.1
        · exact hb.2.1
      · cases fr
        · exact hN b hb
        · exact hNf b hb)
  cases im with
  | false =>
    refine wpIn_value hF hd hr ⟨_, _, ee, h2.put _ _ _ ?_, (Ext.push _ s β _ _).trans (Ext.put _ _ _ _)⟩
    exact ⟨⟨w.heap.size, 0, q.size, xs.length, cap, true, none, []⟩, _, cap, by rw [← h.bsize]; simp, rfl, hle, .inl ⟨rfl, by simp [Bl.addr], by simp⟩⟩
  | true =>
    obtain ⟨h3, mv3⟩ := h.grew (Grew.alloc w (.cells (mid ++ post).toArray e))
    have hfresh : C.fresh s.heap β (w.alloc (.cells (mid ++ post).toArray e)) w.heap.size := ⟨h.keep.size, by simp, fun l o' rr e1 e2 hx => by
      have := (h.occ l o' rr _ e1 e2 hx).1; omega⟩
    have hN : ∀ b, C.N s.heap β w b → C.N s.heap β (w.alloc (.cells (mid ++ post).toArray e)) b := fun b hb => ⟨hb.1, by have := hb.2.1; simp; omega, hb.2.2⟩
    have hNf : ∀ b, C.fresh s.heap β w b → C.fresh s.heap β (w.alloc (.cells (mid ++ post).toArray e)) b := fun b hb => ⟨hb.1, by have := hb.2.1; simp; omega, hb.2.2⟩
    refine wpIn_value hF hd hr ⟨_, _, ee, h3.put _ _ _ ?_, Ext.put _ _ _ _⟩
    refine ⟨_, cap, rfl, hle, .inr ⟨w.heap.size, 0, mid, rfl, ?_, ?_, ?_⟩⟩
    · cases fr
      · exact Cx.fresh_N hfresh
      · exact hfresh
    · exact cellsAt_block (pre := []) (by simpa using hnew)
    · refine rows_weak (fun b hb => ?_) (fun b hb => ?_) hrow
      · refine (Grew.alloc w _).block b ?_
        cases fr
        · exact hb.2.1
        · exact hb.2.1
      · cases fr
        · exact hN b hb
        · exact hNf b hb

theorem rows_replicate {α : Type} {Q : α → List Value → Prop} {x : α} {c : List Value} (hx : Q x c) : ∀ n, rows Q (List.replicate n x) (List.replicate n c).flatten
  | 0 => rfl
  | n + 1 => ⟨c, (List.replicate n c).flatten, by simp [List.replicate_succ], hx, rows_replicate hx n⟩

theorem madeCells_rows (z : List Value) (hz : 0 < z.length) : ∀ n, (madeCells z.toArray (n * z.length)).toList = (List.replicate n z).flatten
  | 0 => by simp [madeCells]
  | n + 1 => by
    have ih := madeCells_rows z hz n
    rw [List.replicate_succ', List.flatten_append, ← ih]
    simp only [madeCells, Array.toList_map, Array.toList_range, List.flatten_cons, List.flatten_nil, List.append_nil]
    rw [Nat.add_mul, Nat.one_mul, List.range_add, List.map_append]
    congr 1
    apply List.ext_getElem
    · simp
    · intro i h1 h2
      have hi : i < z.length := by simpa using h1
      have e : (n * z.length + i) % z.length = i := by rw [Nat.mul_comm, Nat.mul_add_mod]; exact Nat.mod_eq_of_lt hi
      simp [e, hi]

theorem azero_R {e : TypeId} {z : List AV} (hz : azero P e = some z) : ∃ i zv, P.info? e = some i ∧ i.zero = some zv ∧ z.length = zv.cells.size ∧ All2 (AV.R w (C.N s.heap β w) (C.fresh s.heap β w) β) z zv.cells.toList := by
  obtain ⟨i, zv, hi, hzv, rfl⟩ := azero_some hz
  refine ⟨i, zv, hi, hzv, constTV_len zv, ?_⟩
  unfold constTV
  split
  · rename_i cs; simpa [TV.cells, Value.cells] using All2_const cs.toList
  · rename_i hne
    have hvc : zv.cells = #[zv] := by
      unfold Value.cells
      split
      · exact absurd rfl (hne _)
      · rfl
    rw [hvc]; exact ⟨constAV_R _, trivial⟩

theorem make_step (hF : FW F) (h : Rel C s β a w) {t : TypeId} {x y : Operand} (ho : o.op = .makeSlice t x y) {im : Bool} (ee : amake P s im o t x y k = some r) :
    o.wpIn F n P a w (After C s β (fun i => o.dst = some i) k r) Q := by
  unfold amake at ee
  split at ee
  rotate_left
  · simp at ee
  rename_i e m f1 u f2 ht hx hy
  split at ee
  rotate_left
  · simp at ee
  rename_i i q z hi hq hz
  split at ee
  rotate_left
  · simp at ee
  rename_i zd hzd
  split at ee
  rotate_left
  · simp at ee
  rename_i hs
  obtain ⟨h0, e1⟩ := gd_some ee; clear ee
  obtain ⟨h1, e2⟩ := gd_some e1; clear e1
  obtain ⟨h2, ee⟩ := gd_some e2; clear e2
  obtain ⟨m', rfl⟩ : ∃ m' : Int, m' = m := ⟨m, rfl⟩
  obtain ⟨u', rfl⟩ : ∃ u' : Int, u' = u := ⟨u, rfl⟩
  have h0 : (0 : Int) ≤ m' := h0
  have h1 : m' ≤ u' := h1
  have h2 : u' * (i.bytes : Int) ≤ 140737488355328 := h2
  obtain ⟨i', zv, hi', hzv, hzl, hzR⟩ := azero_R (C := C) (s := s) (β := β) (w := w) hz
  rw [hi] at hi'; cases hi'
  have hzr := of_sound h hzR hzd
  have hzlen := K.rd_len w _ q _ _ hzr
  have hu : u' ≤ u' * i.bytes := by
    have := Int.mul_le_mul_of_nonneg_left (show (1 : Int) ≤ i.bytes by omega) (show (0 : Int) ≤ u' by omega)
    simpa using this
  have hrun := run_make (P := P) w t e i zv (aelem_some ht) hi hzv   .i64 .i64 m' u' h0 h1 (by rw [Int.mul_comm]; omega) (by omega)
  have hcells : (madeCells zv.cells (u'.toNat * i.size)).toList = (List.replicate m'.toNat zv.cells.toList).flatten ++ (List.replicate (u'.toNat - m'.toNat) zv.cells.toList).flatten := by
    have := madeCells_rows zv.cells.toList (by omega) u'.toNat
    rw [← hzlen] at hs
    rw [hs.1]
    simp only [Array.toArray_toList] at this
    rw [this, ← List.flatten_append, List.replicate_append_replicate]
    congr 2; omega
  have hmk : madeCells zv.cells (u'.toNat * i.size) = ((List.replicate m'.toNat zv.cells.toList).flatten ++ (List.replicate (u'.toNat - m'.toNat) zv.cells.toList).flatten).toArray := by
    apply Array.ext'; rw [hcells]
  have len : ∀ j, ((List.replicate j zv.cells.toList).flatten).length = j * q.size := fun j => by
    simp [List.length_flatten, ← hzlen]
  refine vec_step hF h (by simp [ho]) (e := e) (q := q) (xs := List.replicate m'.toNat zd) (fr := true) (mid := (List.replicate m'.toNat zv.cells.toList).flatten) (post := (List.replicate (u'.toNat - m'.toNat) zv.cells.toList).flatten) (cap := u'.toNat) ?_ ?_ ?_ ?_ ee
  · rw [hmk] at hrun
    simp only [execOp, ho, h.evInt hx, h.evInt hy, Sem.run_bind, hrun, Result.andThen_ok, Sem.run_pure, List.length_replicate]
  · exact rows_replicate hzr _
  · rw [len, len, ← Nat.add_mul]; congr 1; omega
  · simp; omega

theorem aelems_sound (h : Rel C s β a w) {q : K} : ∀ {ps : List (Nat × Operand)} {j : Nat} {xs : List q.den} {f : Bool}, aelems s.heap q j (ps.map fun p => (p.1, s.ev p.2)) = some (xs, f) →
    ∃ news, rows (q.rd w (if f then C.fresh s.heap β w else C.N s.heap β w)) xs news ∧ xs.length = ps.length ∧ news.length = ps.length * q.size ∧
      ∀ (pre : List Value) (cells : Array Value), pre.length = j * q.size → cells.toList.take (j * q.size) = pre → cells.size = (j + ps.length) * q.size →
        Instr.fill (fun i => some (i * q.size, q.size)) cells (ps.map fun p => (p.1, a.eval p.2)) = some (pre ++ news).toArray
  | [], j, xs, f, e => by
    simp [aelems] at e
    obtain ⟨rfl, rfl⟩ := e
    refine ⟨[], rfl, rfl, by simp, fun pre cells h1 h2 h3 => ?_⟩
    simp only [List.map_nil, Instr.fill, Option.some.injEq, List.append_nil]
    apply Array.ext'
    rw [← h2, List.take_of_length_le (by simp at h3 ⊢; omega)]
  | p :: ps, j, xs, f, e => by
    simp only [List.map_cons] at e
    unfold aelems at e
    split at e
    rotate_left
    · simp at e
    rename_i hc
    obtain ⟨rfl, hsol, hlen⟩ := hc
    split at e
    rotate_left
    · simp at e
    rename_i x1 f1 xs1 g1 hx1 hxs
    simp only [Option.some.injEq, Prod.mk.injEq] at e
    obtain ⟨rfl, rfl⟩ := e
    obtain ⟨news, hr, hl1, hl2, hfill⟩ := aelems_sound h hxs
    have hcl := TV.R_cells (h.ev p.2) hsol
    have hx := of_sound h hcl hx1
    have hvl := hcl.len
    simp only [Array.length_toList] at hvl
    refine ⟨(a.eval p.2).cells.toList ++ news, ⟨_, news, rfl, ?_, ?_⟩, by simp [hl1], ?_, ?_⟩
    · refine K.rd_mono (fun _ _ => rfl) (fun b hb => ?_) _ _ _ hx
      cases f1 <;> cases g1 <;> first | exact hb | exact Cx.fresh_N hb
    · exact rows_weak (fun _ _ => rfl) (fun b hb => fl_weak hb (by simp)) hr
    · simp [hl2, ← hvl, hlen, Nat.add_mul]; omega
    · intro pre cells h1 h2 h3
      simp only [List.map_cons]
      unfold Instr.fill
      simp only [List.length_cons] at h3
      have hfit : p.1 * q.size + (a.eval p.2).cells.size ≤ cells.size := by rw [h3, ← hvl, hlen, Nat.add_mul, Nat.add_mul]; omega
      show (if _ then none else _) = _
      rw [if_neg (by simp only [ne_eq, Bool.or_eq_true, decide_eq_true_eq, not_or]; omega)]
      have hf := fill_step cells (a.eval p.2).cells (p.1 * q.size) hfit
      have := hfill (pre ++ (a.eval p.2).cells.toList) (cells.toList.take (p.1 * q.size) ++ (a.eval p.2).cells.toList ++ cells.toList.drop (p.1 * q.size + (a.eval p.2).cells.size)).toArray
        (by simp [h1, ← hvl, hlen, Nat.add_mul]) (by
          rw [h2]
          simp only [List.append_assoc]
          rw [← List.append_assoc, List.take_left' (by simp [h1, ← hvl, hlen, Nat.add_mul])])
        (by simp [h3, ← hvl, hlen, Nat.add_mul]; omega)
      rw [← List.append_assoc, ← this]
      congr 1

theorem buildSlice_step (hF : FW F) (h : Rel C s β a w) {t : TypeId} {m : Nat} {parts : Array (Nat × Operand)} (ho : o.op = .buildSlice t m parts) {im : Bool} (ee : abuildSlice P s im o t m parts.toList k = some r) :
    o.wpIn F n P a w (After C s β (fun i => o.dst = some i) k r) Q := by
  unfold abuildSlice at ee
  split at ee
  · simp at ee
  rename_i e ht
  split at ee
  rotate_left
  · simp at ee
  rename_i i q z hi hq hz
  split at ee
  rotate_left
  · simp at ee
  rename_i hs
  obtain ⟨hs1, hs2, hs3, hs4⟩ := hs
  split at ee
  rotate_left
  · simp at ee
  rename_i xs f hx
  obtain ⟨i', zv, hi', hzv, hzl, hzR⟩ := azero_R (C := C) (s := s) (β := β) (w := w) hz
  rw [hi] at hi'; cases hi'
  obtain ⟨news, hr, hl1, hl2, hfill⟩ := aelems_sound h hx
  have hcellsize : ∀ (cs : Array Value), ((Array.range (m * i.size)).map (cs[· % cs.size]!)).size = m * i.size := fun cs => by simp
  have hrun : (Instr.buildSlice t m (parts.map fun (x : Nat × Operand) => (x.1, a.eval x.2))).run P w = .ok (.slice (some ⟨w.heap.size, 0, none⟩) m m) (w.alloc (.cells news.toArray e)) := by
    unfold Instr.buildSlice
    simp only [Sem.run_bind, run_underlying' (aelem_some ht), Result.andThen_ok, run_sizeOf hi]
    rw [if_neg (by omega)]
    by_cases hm0 : m * i.size = 0
    · rw [if_pos hm0]
      rw [hs1] at hm0
      have := hfill [] #[] (by simp) (by simp) (by rw [hs3]; simpa using hm0.symm)
      simp only [List.nil_append] at this
      have he : ∀ g : Nat → Value, Array.map g (Array.range 0) = #[] := fun g => by apply Array.ext'; simp
      simp [hs1, hm0, this, newRow, he]
    · rw [if_neg hm0]
      simp only [Sem.run_bind, zeroValue, typeInfo, run_program, Result.andThen_ok, hi, Sem.run_pure, hzv]
      have := hfill [] ((Array.range (m * i.size)).map (zv.cells[· % zv.cells.size]!)) (by simp) (by simp) (by rw [hcellsize, ← hs3, hs1]; simp)
      simp only [List.nil_append] at this
      rw [hs1] at this ⊢
      simp only [Array.toList_map, this]
      simp [newRow]
  refine vec_step hF h (by simp [ho]) (e := e) (q := q) (xs := xs) (fr := f) (mid := news) (post := []) (cap := m) ?_ hr ?_ ?_ ee
  · simp only [execOp, ho, Sem.run_bind, hrun, Result.andThen_ok, Sem.run_pure, hl1, List.length_map, List.append_nil]
    rw [show parts.toList.length = m from hs3]
  · simp [hl2, hs3]
  · rw [hl1, ← hs3]; omega

theorem adeepB_some {Γ : Env} {t : TypeId} {m : Nat} {parts : List (Nat × Operand)} {e : TypeId} {cs : List AV} (h : adeepB P Γ s o t m parts = some (e, cs)) :
    aelem P t = some e ∧ m = 1 ∧ Γ.im o = false ∧ ∃ x i z, parts = [(0, x)] ∧ P.info? e = some i ∧ azero P e = some z ∧ s.ev x = .agg cs ∧ cs.length = i.size ∧ z.length = i.size ∧ 0 < i.size ∧ i.size ≤ 16777216 := by
  unfold adeepB at h
  split at h
  · simp at h
  split at h
  · simp at h
  rename_i him
  split at h
  · simp at h
  rename_i e' ht
  split at h
  rotate_left
  · simp at h
  unfold deepOne at h
  split at h
  rotate_left
  · simp at h
  rename_i x i z hi hz
  split at h
  rotate_left
  · simp at h
  rename_i cs' hx
  split at h
  rotate_left
  · simp at h
  rename_i hc
  simp only [Option.some.injEq, Prod.mk.injEq] at h
  obtain ⟨rfl, rfl⟩ := h
  exact ⟨ht, hc.1, by simpa using him, x, i, z, rfl, hi, hz, hx, hc.2.1, hc.2.2.1, hc.2.2.2.1, hc.2.2.2.2⟩

theorem deepB_step (hF : FW F) (h : Rel C s β a w) {Γ : Env} {t : TypeId} {m : Nat} {parts : Array (Nat × Operand)} (ho : o.op = .buildSlice t m parts) {e : TypeId} {cs : List AV} (hb : adeepB P Γ s o t m parts.toList = some (e, cs))
    (ee : k ((s.push (.box e cs)).put o.dst (.one (.vw s.heap.length 0 1))) = some r) : o.wpIn F n P a w (After C s β (fun i => o.dst = some i) k r) Q := by
  obtain ⟨ht, rfl, _, x, i, z, hps, hi, hz, hx, hl1, hl2, h0, hmax⟩ := adeepB_some hb
  have hparts : parts = #[(0, x)] := by rw [← Array.toArray_toList (xs := parts), hps]
  subst hparts
  obtain ⟨i', zv, hi', hzv, hzl, hzR⟩ := azero_R (C := C) (s := s) (β := β) (w := w) hz
  rw [hi] at hi'; cases hi'
  have hxR := h.ev x
  rw [hx] at hxR
  obtain ⟨vs, hve, hcs⟩ := hxR
  have hvl := hcs.len
  have hfill := fill_step ((Array.range (1 * i.size)).map (zv.cells[· % zv.cells.size]!)) vs.toArray 0 (by simp; omega)
  have hrun : (Instr.buildSlice t 1 (#[(0, x)].map fun (x : Nat × Operand) => (x.1, a.eval x.2))).run P w = .ok (.slice (some ⟨w.heap.size, 0, none⟩) 1 1) (w.alloc (.cells vs.toArray e)) := by
    unfold Instr.buildSlice
    simp only [Sem.run_bind, run_underlying' (aelem_some ht), Result.andThen_ok, run_sizeOf hi]
    rw [if_neg (by omega), if_neg (by omega)]
    simp only [Sem.run_bind, zeroValue, typeInfo, run_program, Result.andThen_ok, hi, Sem.run_pure, hzv]
    have hf : Instr.fill (fun j => some (j * i.size, i.size)) ((Array.range (1 * i.size)).map (zv.cells[· % zv.cells.size]!)) [(0, a.eval x)] = some vs.toArray := by
      unfold Instr.fill
      have hvc : (a.eval x).cells = vs.toArray := by rw [hve]; rfl
      show (if _ then none else _) = _
      rw [if_neg (by rw [hvc]; simp; omega)]
      unfold Instr.fill
      simp only [Nat.zero_mul, hvc]
      refine congrArg some ?_
      refine Eq.trans hfill ?_
      apply Array.ext'
      simp
      omega
    rw [Nat.one_mul] at hf
    simp [hf, newRow]
  have hnew : (w.alloc (.cells vs.toArray e)).heap[w.heap.size]? = some (.cells vs.toArray e) := heap_alloc_new w _
  obtain ⟨h2, mv⟩ := h.push (Grew.alloc w (.cells vs.toArray e)) (.box e cs) ⟨w.heap.size, 0, i.size, 1, 1, true, none, []⟩ (fun b hb => by simp only [AObj.occ, List.mem_singleton] at hb; subst hb; simp)
    (fun mv hN hNf => ⟨vs, by rw [hnew], rfl, hcs.mono mv⟩)
  refine wpIn_value hF (by simp [ho]) (v := .slice (some ⟨w.heap.size, 0, none⟩) 1 1) (w' := w.alloc (.cells vs.toArray e)) (by simp only [execOp, ho, Sem.run_bind, hrun, Result.andThen_ok, Sem.run_pure]) ⟨_, _, ee, h2.put _ _ _ ?_, (Ext.push _ s β _ _).trans (Ext.put _ _ _ _)⟩
  exact ⟨⟨w.heap.size, 0, i.size, 1, 1, true, none, []⟩, _, 1, by rw [← h.bsize]; simp, rfl, Nat.le_refl _, by simp, .inl ⟨rfl, by simp [Bl.addr], by simp⟩⟩

theorem over_step (h : Rel C s β a w) {l : Nat} {f : Bool} {T : TypeId} {q : K} {xs : List q.den} {fr fr2 : Bool} {rr : Bl} (hf : s.heap[l]? = some (f, .vec T q xs fr)) (hr : β[l]? = some rr) (hreal : rr.real = true)
    {off : Nat} {ys : List q.den} {news : List Value} (hle : off + ys.length ≤ xs.length) (hrn : rows (q.rd w (if fr2 then C.fresh s.heap β w else C.N s.heap β w)) ys news) :
    ∃ w', (storeCells ⟨rr.blk, rr.base + off * q.size, none⟩ news).run P w = .ok () w' ∧ Rel C (s.upd l (.vec T q (xs.take off ++ ys ++ xs.drop (off + ys.length)) (fr && fr2))) β a w' := by
  obtain ⟨g1, g2, g3, g4⟩ := h.ob l _ rr hf hr
  simp only [hreal, if_true] at g4
  obtain ⟨pre, mid, post, hh, hp, hrow, hcap⟩ := g4
  have hsplit : xs = xs.take off ++ ((xs.drop off).take ys.length ++ (xs.drop off).drop ys.length) := by rw [List.take_append_drop, List.take_append_drop]
  have hrow' := hrow
  rw [hsplit] at hrow'
  obtain ⟨m1, m2, rfl, r1, r2⟩ := rows.of_app hrow'
  obtain ⟨m3, m4, rfl, r3, r4⟩ := rows.of_app r2
  have e1 := rows.len (fun x c => K.rd_len w _ q x c) r1
  have e3 := rows.len (fun x c => K.rd_len w _ q x c) r3
  have en := rows.len (fun x c => K.rd_len w _ q x c) hrn
  have e1' : m1.length = off * q.size := by rw [e1]; congr 1; simp; omega
  have e3' : m3.length = news.length := by rw [e3, en]; congr 1; simp; omega
  have hst := run_store_block (P := P) (w := w) (b := rr.blk) (o := rr.base + off * q.size) (T := T) (pre := pre ++ m1) (old := m3) (post := m4 ++ post) (news := news)
    (by rw [hh]; simp) (by simp [hp, e1']) e3' (rows.one hrn)
  obtain ⟨f1, f2, f3, f4, f5⟩ := setRow_facts w rr.blk (pre ++ m1 ++ news ++ (m4 ++ post)).toArray
  have hrows : ∀ (w' : World) (M' : Nat → Prop), (∀ b, (if (fr && fr2) = true then C.fresh s.heap β w else C.N s.heap β w) b → w'.heap[b]? = w.heap[b]?) →
      (∀ b, (if (fr && fr2) = true then C.fresh s.heap β w else C.N s.heap β w) b → M' b) → rows (q.rd w' M') (xs.take off ++ ys ++ xs.drop (off + ys.length)) (m1 ++ news ++ m4) := by
    intro w' M' hw' hM'
    have a1 := rows_weak hw' hM' (rows_weak (fun _ _ => rfl) (fun b hb => fl_weak hb (by simp; exact fun h _ => h)) r1)
    have a2 := rows_weak hw' hM' (rows_weak (fun _ _ => rfl) (fun b hb => fl_weak hb (by simp)) hrn)
    have a4 := rows_weak hw' hM' (rows_weak (fun _ _ => rfl) (fun b hb => fl_weak hb (by simp; exact fun h _ => h)) r4)
    rw [List.drop_drop] at a4
    exact (a1.app a2).app a4
  refine ⟨_, hst, ?_⟩
  refine (h.upd l _ (.vec T q (xs.take off ++ ys ++ xs.drop (off + ys.length)) (fr && fr2)) rr hf hr f1 f2 f3 (by omega) (fun b _ hb => f5 b (fun e => hb (by simp [AObj.occ, e, hreal]))) (by simp) (fun b hb => hb) (fun mv hN hNf hbl => ?_)).1
  refine ⟨by simp; omega, g2, g3, ?_⟩
  simp only [hreal, if_true]
  refine ⟨pre, m1 ++ news ++ m4, post, by rw [setRow_same hh]; simp, hp, ?_, ?_⟩
  · refine hrows _ _ (fun b hb => hbl b ?_) fun b hb => ?_
    · cases hg : (fr && fr2) <;> rw [hg] at hb
      · exact hb
      · exact Cx.fresh_N hb
    · by_cases hg : (fr && fr2) = true
      · rw [if_pos hg] at hb ⊢; exact hNf b hb
      · rw [if_neg hg] at hb ⊢; exact hN b hb
  · simp only [List.length_append] at hcap ⊢; omega

theorem weak_step (h : Rel C s β a w) {l : Nat} {f : Bool} {T : TypeId} {q : K} {xs : List q.den} {fr : Bool} (fr2 : Bool) (hf : s.heap[l]? = some (f, .vec T q xs fr)) : Rel C (s.upd l (.vec T q xs (fr && fr2))) β a w := by
  have hl := (List.getElem?_eq_some_iff.1 hf).1
  obtain ⟨rr, hr⟩ : ∃ r, β[l]? = some r := ⟨_, List.getElem?_eq_getElem (by rw [h.bsize]; exact hl)⟩
  obtain ⟨g1, g2, g3, g4⟩ := h.ob l _ rr hf hr
  refine (h.upd l _ (.vec T q xs (fr && fr2)) rr hf hr rfl rfl rfl (Nat.le_refl _) (fun _ _ _ => rfl) (by simp) (fun b hb => hb) (fun mv hN hNf hbl => ?_)).1
  refine ⟨g1, g2, g3, ?_⟩
  by_cases hreal : rr.real = true
  · simp only [hreal, if_true] at g4 ⊢
    obtain ⟨pre, mid, post, hh, hp, hrow, hcap⟩ := g4
    refine ⟨pre, mid, post, hh, hp, rows_weak (fun _ _ => rfl) (fun b hb => ?_) (rows_weak (fun _ _ => rfl) (fun b hb => fl_weak (g := fr && fr2) hb (by simp; exact fun h _ => h)) hrow), hcap⟩
    by_cases hg : (fr && fr2) = true
    · rw [if_pos hg] at hb ⊢; exact hNf b hb
    · rw [if_neg hg] at hb ⊢; exact hN b hb
  · simp only [hreal] at g4 ⊢
    exact g4

theorem copy_step (hF : FW F) (h : Rel C s β a w) {c : Call} (ho : o.op = .call c) (hcal : c.callee = .builtin .copy) (ee : acopy P s o c k = some r) :
    o.wpIn F n P a w (After C s β (fun i => o.dst = some i) k r) Q := by
  unfold acopy at ee
  split at ee
  rotate_left
  · simp at ee
  rename_i x y t ts hargs htys
  have hargs' : c.args = #[x, y] := by rw [← Array.toArray_toList (xs := c.args), hargs]
  have htys' : c.argTypes[0]? = some t := by rw [← Array.toArray_toList (xs := c.argTypes), htys]; rfl
  split at ee
  rotate_left
  · simp at ee
  rename_i e xa ya ht hx hy
  split at ee
  rotate_left
  · simp at ee
  rename_i q ys fr2 hb
  obtain ⟨B, c2, news, hv, hle, hrn, hcn⟩ := src_cells h (h.ev1 hy) hb
  generalize (fr2 || q.flat) = fr3 at ee hrn
  have hmin : ∀ dl, Nat.min ys.length dl = min ys.length dl := fun _ => rfl
  have run : ∀ (b o' : Nat) (dl dc : Nat) (inf : TypeInfo) (nn : List Value) (w' : World), a.eval x = .slice (some ⟨b, o', none⟩) dl dc → P.info? e = some inf → inf.size = q.size → nn.length = (min ys.length dl) * q.size →
      (min ys.length dl = 0 ∨ ∃ b o, B = some ⟨b, o, none⟩ ∧ cellsAt w b o nn) → (storeCells ⟨b, o', none⟩ nn).run P w = .ok () w' →
      (execOp a.eval o).run P w = .ok (.value (.int .i64 (min ys.length dl : Nat))) w' := by
    intro b o' dl dc inf nn w' hax hi hs hl hcc hst
    have hfc := run_firstCells' (P := P) (w := w) (A := B) (len := ys.length) (c := c2) (size := inf.size) (news := nn) (m := min ys.length dl) (by rw [hl, hs]) hcc
    simp only [execOp, ho, resolve, hcal, hargs', List.map_toArray, List.map_cons, List.map_nil, Sem.run_bind, Sem.run_pure, Result.andThen_ok, invoke, builtin, Builtin.copy_, htys', hv, hax]
    simp [run_underlying' (aelem_some ht), Builtin.lenOf, run_sizeOf hi, hfc, goInt, hmin, hst]
  have run0 : ∀ (A : Option Addr) (dl dc : Nat) (inf : TypeInfo), a.eval x = .slice A dl dc → P.info? e = some inf → min ys.length dl = 0 → (execOp a.eval o).run P w = .ok (.value (.int .i64 (min ys.length dl : Nat))) w := by
    intro A dl dc inf hax hi hz
    have hfc := run_firstCells' (P := P) (w := w) (A := B) (len := ys.length) (c := c2) (size := inf.size) (news := []) (m := min ys.length dl) (by simp [hz]) (.inl hz)
    simp only [execOp, ho, resolve, hcal, hargs', List.map_toArray, List.map_cons, List.map_nil, Sem.run_bind, Sem.run_pure, Result.andThen_ok, invoke, builtin, Builtin.copy_, htys', hv, hax]
    cases A with
    | none => simp [run_underlying' (aelem_some ht), Builtin.lenOf, run_sizeOf hi, hfc, goInt, hmin]
    | some ad =>
      have hst0 : (storeCells ad []).run P w = .ok () w := rfl
      simp [run_underlying' (aelem_some ht), Builtin.lenOf, run_sizeOf hi, hfc, goInt, hmin, hst0]
  have take : ∀ d, ∃ nn, nn.length = (min ys.length d) * q.size ∧ rows (q.rd w (if fr3 then C.fresh s.heap β w else C.N s.heap β w)) (ys.take d) nn ∧ (min ys.length d = 0 ∨ ∃ b o, B = some ⟨b, o, none⟩ ∧ cellsAt w b o nn) := by
    intro d
    have hr := hrn
    rw [← List.take_append_drop d ys] at hr
    obtain ⟨m1, m2, rfl, r1, r2⟩ := rows.of_app hr
    have e1 := rows.len (fun x c => K.rd_len w _ q x c) r1
    refine ⟨m1, by rw [e1, List.length_take, Nat.min_comm], r1, ?_⟩
    rcases hcn with hz | ⟨b, o, hB, hc⟩
    · left; omega
    · exact .inr ⟨b, o, hB, hc.app.1⟩
  split at ee
  · rename_i l
    split at ee
    rotate_left
    · simp at ee
    rename_i T q' xs fr hob
    split at ee
    rotate_left
    · simp at ee
    rename_i hq
    subst hq
    obtain ⟨inf, hi, hs, ee⟩ := szOk_some ee
    obtain ⟨rr, A, dc, hr, hax, hdc, hsl⟩ := h.ev1 hx
    obtain ⟨f, b, hf, hb', g1, g2, g3, g4⟩ := h.obj hob (by simp)
    rw [hr] at hb'; cases hb'
    have hlt : (ys.take xs.length).length = min ys.length xs.length := by simp [Nat.min_comm]
    by_cases hz : min ys.length xs.length = 0
    · have hsame : ys.take xs.length ++ xs.drop ys.length = xs := by
        have h1 : ys.take xs.length = [] := List.eq_nil_of_length_eq_zero (by omega)
        rw [h1, List.nil_append]
        by_cases hy0 : ys.length = 0
        · rw [hy0]; rfl
        · have : xs = [] := List.eq_nil_of_length_eq_zero (by omega)
          rw [this]; simp
      have hrun := run0 A rr.n dc inf hax hi (by rw [g1]; exact hz)
      rw [g1] at hrun
      have hrel := weak_step h fr3 hf
      rw [← hsame] at hrel
      exact wpIn_value hF (by simp [ho]) hrun ⟨_, _, ee, hrel.put _ _ _ rfl, (Ext.upd _ s β _ _ (by rw [hf]; simp)).trans (Ext.put _ _ _ _)⟩
    · obtain ⟨nn, n1, n2, n3⟩ := take xs.length
      have hreal : rr.real = true ∧ A = rr.addr 0 := by
        rcases hsl with ⟨h1, h2, _⟩ | ⟨h1, _⟩
        · exact ⟨h1, by simpa using h2⟩
        · omega
      have hsame : xs.take 0 ++ ys.take xs.length ++ xs.drop (0 + (ys.take xs.length).length) = ys.take xs.length ++ xs.drop ys.length := by
        simp only [List.take_zero, List.nil_append, Nat.zero_add, hlt]
        congr 1
        by_cases hc : ys.length ≤ xs.length
        · rw [Nat.min_eq_left hc]
        · rw [Nat.min_eq_right (by omega), List.drop_eq_nil_of_le (by omega), List.drop_eq_nil_of_le (by omega)]
      obtain ⟨w', hst, hrel⟩ := over_step (P := P) h hf hr hreal.1 (off := 0) (ys := ys.take xs.length) (by rw [hlt]; omega) n2
      rw [hsame] at hrel
      have hrun := run rr.blk rr.base rr.n dc inf nn w' (by rw [hax, hreal.2]; simp [Bl.addr]) hi hs (by rw [g1]; exact n1) (by rw [g1]; exact n3) (by simpa using hst)
      rw [g1] at hrun
      exact wpIn_value hF (by simp [ho]) hrun ⟨_, _, ee, hrel.put _ _ _ rfl, (Ext.upd _ s β _ _ (by rw [hf]; simp)).trans (Ext.put _ _ _ _)⟩
  · rename_i l off len
    split at ee
    rotate_left
    · simp at ee
    rename_i T q' xs fr hob
    split at ee
    rotate_left
    · simp at ee
    rename_i hq
    subst hq
    obtain ⟨inf, hi, hs, ee⟩ := szOk_some ee
    obtain ⟨rr, A, dc, hr, hax, hdc, hoff, hsl⟩ := h.ev1 hx
    obtain ⟨f, b, hf, hb', g1, g2, g3, g4⟩ := h.obj hob (by simp)
    rw [hr] at hb'; cases hb'
    have hlt : (ys.take len).length = min ys.length len := by simp [Nat.min_comm]
    by_cases hz : min ys.length len = 0
    · have hsame : xs.take off ++ ys.take len ++ xs.drop (off + min ys.length len) = xs := by
        have h1 : ys.take len = [] := List.eq_nil_of_length_eq_zero (by omega)
        rw [h1, hz, List.append_nil, Nat.add_zero, List.take_append_drop]
      have hrun := run0 A len dc inf hax hi hz
      have hrel := weak_step h fr3 hf
      rw [← hsame] at hrel
      exact wpIn_value hF (by simp [ho]) hrun ⟨_, _, ee, hrel.put _ _ _ rfl, (Ext.upd _ s β _ _ (by rw [hf]; simp)).trans (Ext.put _ _ _ _)⟩
    · obtain ⟨nn, n1, n2, n3⟩ := take len
      have hreal : rr.real = true ∧ A = rr.addr (off * rr.sz) := by
        rcases hsl with ⟨h1, h2, _⟩ | ⟨h1, _⟩
        · exact ⟨h1, h2⟩
        · omega
      obtain ⟨w', hst, hrel⟩ := over_step (P := P) h hf hr hreal.1 (off := off) (ys := ys.take len) (by rw [hlt]; omega) n2
      rw [hlt] at hrel
      have hrun := run rr.blk (rr.base + off * q'.size) len dc inf nn w' (by rw [hax, hreal.2, g2]; simp [Bl.addr]) hi hs n1 n3 hst
      exact wpIn_value hF (by simp [ho]) hrun ⟨_, _, ee, hrel.put _ _ _ rfl, (Ext.upd _ s β _ _ (by rw [hf]; simp)).trans (Ext.put _ _ _ _)⟩
  · simp at ee

theorem trim_step (hF : FW F) (h : Rel C s β a w) (hd : ∀ c, o.op ≠ .defer c) (ee : aval P s o (fun tv => atrimV s o.dst tv k) = some r) :
    o.wpIn F n P a w (After C s β (fun i => o.dst = some i) k r) Q := by
  obtain ⟨tv, v, hk, hr, hv⟩ := aval_sound h ee
  unfold atrimV at hk
  split at hk
  rotate_left
  · simp at hk
  rename_i l off len
  split at hk
  rotate_left
  · simp at hk
  rename_i T q xs fr hob
  have hv' : (AV.vw l off len).R w (C.N s.heap β w) (C.fresh s.heap β w) β v := hv
  have eo : aowned s.heap T q (.vw l off len) = some ((xs.drop off).take len, fr, some l) := by simp [aowned, hob]
  obtain ⟨_, _, _, _, _, _, _, hkl, _⟩ := own_cells h hv' eo
  obtain ⟨rr, hrel, A, cc, e1, e2, e3⟩ := trim_core h hv' eo
  refine wpIn_value hF hd hr ⟨_, _, hk, hrel.put _ _ _ ?_, ((Ext.kill _ s β _ hkl).trans (Ext.push _ _ _ _ _)).trans (Ext.put _ _ _ _)⟩
  exact ⟨rr, A, cc, by rw [← h.bsize]; simp, e1, e2, e3⟩

theorem step_sound (hF : FW F) {Γ : Env} (hΓ : Γ.Sound P) (h : Rel C s β a w) (ee : astep P Γ s o k = some r) :
    o.wpIn F n P a w (After C s β (fun i => o.dst = some i) k r) Q := by
  unfold astep at ee
  split at ee
  · rename_i ho
    split at ee
    · exact trim_step hF h (by simp [ho]) ee
    · exact value_step hF h (by simp [ho]) ee
  · rename_i t ho
    split at ee
    · exact alloc_step hF h ho ‹_› ee
    · simp at ee
  · rename_i t x ho
    split at ee
    · exact boxD_step hF h ho ‹_› ee
    · split at ee
      · exact box_op_step hF h ho ‹_› ee
      · simp at ee
  · rename_i t x y ho
    exact make_step hF h ho ee
  · rename_i t m parts ho
    split at ee
    · rename_i e cs hb
      exact deepB_step hF h ho hb ee
    · exact buildSlice_step hF h ho ee
  · rename_i t x y ho
    split at ee
    · exact store_step hF h ho ‹_› ee
    · simp at ee
  · rename_i t x i ok ho
    obtain ⟨tv, v, h1, h2, h3⟩ := alookup_sound h ho ee
    exact wpIn_value hF (by simp [ho]) h2 ⟨_, _, h1, h.put _ _ _ h3, Ext.put _ _ _ _⟩
  · rename_i x ho
    obtain ⟨tv, v, h1, h2, h3⟩ := aentry_sound h ho ee
    exact wpIn_value hF (by simp [ho]) h2 ⟨_, _, h1, h.put _ _ _ h3, Ext.put _ _ _ _⟩
  · rename_i t x ho
    exact range_step hF h ho ee
  · rename_i t ho
    exact makeMap_step hF h ho ee
  · rename_i t m i x ho
    exact mapUpdate_step hF h ho ee
  · rename_i t m i ho
    exact mapEntry_step hF h ho ee
  · rename_i t m st x ho
    exact entryStore_step hF h ho ee
  · rename_i c ho
    split at ee
    · rename_i hcal
      split at ee
      · exact appendV_step hF h ho hcal ee
      · exact append_step hF h ho hcal ee
    · exact copy_step hF h ho ‹_› ee
    · exact delete_step hF h ho ‹_› ee
    · exact value_step hF h (by simp [ho]) ee
    · rename_i f hc
      split at ee
      · rename_i hfv
        split at ee
        · exact call_step hF h hΓ ho hc hfv ee
        · rename_i d hd
          split at ee
          · exact call_step hF h hΓ ho hc hfv ee
          · split at ee
            · exact callH_step hF h ho hc hfv (hΓ.hd _ d hd) ee
            · simp at ee
      · simp at ee
    · simp at ee
  · rename_i h1 h2 h3 h4 h5 h6 h7 h8 h9 h10 h11
    refine value_step hF h (fun c hc => ?_) ee
    rw [aval, hc] at ee
    simp at ee
end
end Go.Proofs.AM
end

section
namespace Go.Proofs.AM
open Go Go.RowKit

theorem digits_ints : ∀ (n t : Nat) (acc : Array Value), ∃ l : List Int, l.length = n ∧ Extern.BytealgMakeNoZero.digits n t acc = acc ++ (l.map (Value.int .u8)).toArray
  | 0, _, acc => ⟨[], rfl, by simp [Extern.BytealgMakeNoZero.digits]⟩
  | n + 1, t, acc => by
    obtain ⟨l, h1, h2⟩ := digits_ints n (t / 256) (acc.push (.int .u8 (Int.ofNat (t % 256))))
    refine ⟨Int.ofNat (t % 256) :: l, by simp [h1], ?_⟩
    rw [Extern.BytealgMakeNoZero.digits, h2]
    apply Array.ext'
    simp

theorem bytes_entry {P : Program} {w : World} {ps : Array TypeId} {t e : TypeId} (ht : P.underlying t = some (.slice e)) {n : Nat} (h3 : ¬ (n : Int) < 0) (h4 : ¬ (281474976710656 : Int) < (n : Int)) :
    (Extern.BytealgMakeNoZero.makeNoZero ps #[t] #[.int .i64 n]).run P w =
      (choose (.appendCap (n : Int).toNat 0 e) >>= fun c => askRoom c >>= fun _ => choose (.extern "internal/bytealg.MakeNoZero.bytes" 0) >>= fun b =>
        newRow e (Extern.BytealgMakeNoZero.digits c b #[]) >>= fun a => pure (Value.slice (some a) (n : Int).toNat c)).run P w := by
  show ((underlying t >>= _ : Sem Value)).run P w = _
  rw [Sem.run_bind, run_underlying' ht, Result.andThen_ok]
  show (if ((n : Int) < 0 || (n : Int) > 2 ^ 48) = true then _ else _ : Sem Value).run P w = _
  rw [if_neg (by simp; omega)]

theorem bytes_run {P : Program} (w : World) (ps : Array TypeId) (t e : TypeId) (ht : P.underlying t = some (.slice e)) (n : Nat) (hn : n ≤ 281474976710656) :
    ∃ l : List Int, (Extern.BytealgMakeNoZero.makeNoZero ps #[t] #[.int .i64 n]).run P w = .ok (.slice (some ⟨w.heap.size, 0, none⟩) n l.length) (w.drew.drew.alloc (.cells (l.map (Value.int .u8)).toArray e)) ∧ n ≤ l.length := by
  obtain ⟨l, h1, h2⟩ := digits_ints (grownCap w n 0 e) ((Question.extern "internal/bytealg.MakeNoZero.bytes" 0).cut (w.tape (w.drawn + 1) (.extern "internal/bytealg.MakeNoZero.bytes" 0))) #[]
  refine ⟨l, ?_, ?_⟩
  · have h3 : ¬ (n : Int) < 0 := by omega
    have h4 : ¬ (281474976710656 : Int) < (n : Int) := by omega
    simp only [Array.empty_append] at h2
    rw [← h2, h1]
    rw [bytes_entry ht h3 h4]
    simp [Question.forced, newRow, grownCap]
  · rw [h1]
    simpa using grownCap_ge w n 0 e

open Classical in
noncomputable def anyBytes {R : Type} (n : Int) (f : List Int → Option R) : Option R := if h : ∃ r, ∀ xs : List Int, (xs.length : Int) = n → f xs = some r then some (Classical.choose h) else none

theorem anyBytes_some {R : Type} {n : Int} {f : List Int → Option R} {r : R} (h : anyBytes n f = some r) {xs : List Int} (hx : (xs.length : Int) = n) : f xs = some r := by
  unfold anyBytes at h
  split at h
  · rename_i hh
    simp only [Option.some.injEq] at h
    subst h
    exact Classical.choose_spec hh xs hx
  · simp at h

end Go.Proofs.AM
end

section
namespace Go.Proofs.AM
open Go Go.RowKit

def aelemsA : Nat → List (Nat × TV) → Option (List AV)
  | _, [] => some []
  | n, (i, t) :: r => if i = n ∧ t.solid = true ∧ t.cells.length = 1 then match aelemsA (n + 1) r with
    | some cs => some (t.cells ++ cs)
    | none => none
    else none

def arowp (P : Program) (s : AS) (t : TypeId) (n : Nat) (parts : List (Nat × Operand)) : Option (TypeId × List AV) :=
  match aelem P t with
  | none => none
  | some e => match P.underlying e, P.info? e, azero P e with
    | some (.pointer _), some i, some z => if i.size = 1 ∧ z.length = 1 ∧ parts.length = n ∧ n ≤ 16777216 then
        match aelemsA 0 (parts.map fun p => (p.1, s.ev p.2)) with
        | some cs => some (e, cs)
        | none => none
      else none
    | _, _, _ => none

def arowi (P : Program) (s : AS) (t : TypeId) (x i : Operand) : Option (Nat × Nat × Int) :=
  match aelem P t, s.ev x, s.ev i with
  | some e, .one (.vw l off len), .one (.dat (.int _) n _) => match hat s.heap l, P.info? e with
    | .box _ _, some inf => if off = 0 ∧ inf.size = 1 then some (l, len, n) else none
    | _, _ => none
  | _, _, _ => none

section
variable {P : Program} {C : Cx} {s : AS} {β : List Bl} {a : Act} {w : World} {R : Type} {k : AS → Option R} {r : R} {F : Fence} {n : Nat} {Q : Exit → Act → World → Prop} {o : Oper}

theorem aelemsA_sound (h : Rel C s β a w) : ∀ {ps : List (Nat × Operand)} {j : Nat} {cs : List AV}, aelemsA j (ps.map fun p => (p.1, s.ev p.2)) = some cs →
    ∃ news, All2 (AV.R w (C.N s.heap β w) (C.fresh s.heap β w) β) cs news ∧ news.length = ps.length ∧
      ∀ (pre : List Value) (cells : Array Value), pre.length = j → cells.toList.take j = pre → cells.size = j + ps.length →
        Instr.fill (fun i => some (i * 1, 1)) cells (ps.map fun p => (p.1, a.eval p.2)) = some (pre ++ news).toArray
  | [], j, cs, e => by
    simp [aelemsA] at e
    subst e
    refine ⟨[], trivial, rfl, fun pre cells h1 h2 h3 => ?_⟩
    simp only [List.map_nil, Instr.fill, Option.some.injEq, List.append_nil]
    apply Array.ext'
    rw [← h2, List.take_of_length_le (by simp at h3 ⊢; omega)]
  | p :: ps, j, cs, e => by
    simp only [List.map_cons] at e
    unfold aelemsA at e
    split at e
    rotate_left
    · simp at e
    rename_i hc
    obtain ⟨rfl, hsol, hlen⟩ := hc
    split at e
    rotate_left
    · simp at e
    rename_i cs1 hcs
    simp only [Option.some.injEq] at e
    subst e
    obtain ⟨news, hr, hl2, hfill⟩ := aelemsA_sound h hcs
    have hcl := TV.R_cells (h.ev p.2) hsol
    have hvl := hcl.len
    simp only [Array.length_toList] at hvl
    refine ⟨(a.eval p.2).cells.toList ++ news, hcl.app hr, ?_, ?_⟩
    · simp [hl2, ← hvl, hlen]; omega
    · intro pre cells h1 h2 h3
      simp only [List.map_cons]
      unfold Instr.fill
      simp only [List.length_cons] at h3
      have hfit : p.1 * 1 + (a.eval p.2).cells.size ≤ cells.size := by rw [h3, ← hvl, hlen]; omega
      show (if _ then none else _) = _
      rw [if_neg (by simp only [ne_eq, Bool.or_eq_true, decide_eq_true_eq, not_or]; omega)]
      have hf := fill_step cells (a.eval p.2).cells (p.1 * 1) hfit
      have := hfill (pre ++ (a.eval p.2).cells.toList) (cells.toList.take (p.1 * 1) ++ (a.eval p.2).cells.toList ++ cells.toList.drop (p.1 * 1 + (a.eval p.2).cells.size)).toArray
        (by simp [h1, ← hvl, hlen]) (by
          rw [Nat.mul_one, h2]
          simp only [List.append_assoc]
          rw [← List.append_assoc, List.take_left' (by simp [h1, ← hvl, hlen])])
        (by simp [h3, ← hvl, hlen]; omega)
      rw [← List.append_assoc, ← this]
      congr 1

theorem rowp_step (hF : FW F) (h : Rel C s β a w) {t : TypeId} {m : Nat} {parts : Array (Nat × Operand)} (ho : o.op = .buildSlice t m parts) {e : TypeId} {cs : List AV} (er : arowp P s t m parts.toList = some (e, cs))
    (ee : k ((s.push (.box e cs)).put o.dst (.one (.vw s.heap.length 0 m))) = some r) : o.wpIn F n P a w (After C s β (fun i => o.dst = some i) k r) Q := by
  unfold arowp at er
  split at er
  · simp at er
  rename_i e' ht
  split at er
  rotate_left
  · simp at er
  rename_i pt i z hpt hi hz
  split at er
  rotate_left
  · simp at er
  rename_i hs
  obtain ⟨hs1, hs2, hs3, hs4⟩ := hs
  split at er
  rotate_left
  · simp at er
  rename_i cs' hx
  simp only [Option.some.injEq, Prod.mk.injEq] at er
  obtain ⟨rfl, rfl⟩ := er
  obtain ⟨i', zv, hi', hzv, hzl, hzR⟩ := azero_R (C := C) (s := s) (β := β) (w := w) hz
  rw [hi] at hi'; cases hi'
  obtain ⟨news, hr, hl2, hfill⟩ := aelemsA_sound h hx
  have hrun : (Instr.buildSlice t m (parts.map fun (x : Nat × Operand) => (x.1, a.eval x.2))).run P w = .ok (.slice (some ⟨w.heap.size, 0, none⟩) m m) (w.alloc (.cells news.toArray e')) := by
    unfold Instr.buildSlice
    simp only [Sem.run_bind, run_underlying' (aelem_some ht), Result.andThen_ok, run_sizeOf hi]
    rw [if_neg (by rw [hs1]; omega)]
    by_cases hm0 : m * i.size = 0
    · rw [if_pos hm0]
      rw [hs1] at hm0
      have := hfill [] #[] (by simp) (by simp) (by rw [hs3]; simp; omega)
      simp only [List.nil_append] at this
      have he : ∀ g : Nat → Value, Array.map g (Array.range 0) = #[] := fun g => by apply Array.ext'; simp
      simp [hs1, show m = 0 by omega, newRow, he] at this ⊢
      simp [this]
    · rw [if_neg hm0]
      simp only [Sem.run_bind, zeroValue, typeInfo, run_program, Result.andThen_ok, hi, Sem.run_pure, hzv]
      have := hfill [] ((Array.range (m * i.size)).map (zv.cells[· % zv.cells.size]!)) (by simp) (by simp) (by rw [hs3, hs1]; simp)
      simp only [List.nil_append] at this
      rw [hs1] at this ⊢
      simp only [Array.toList_map, this]
      simp [newRow]
  have hnew : (w.alloc (.cells news.toArray e')).heap[w.heap.size]? = some (.cells news.toArray e') := heap_alloc_new w _
  obtain ⟨h2, mv⟩ := h.push (Grew.alloc w (.cells news.toArray e')) (.box e' cs') ⟨w.heap.size, 0, 1, m, m, true, none, []⟩ (fun b hb => by simp only [AObj.occ, List.mem_singleton] at hb; subst hb; simp)
    (fun mv hN hNf => ⟨news, by rw [hnew], rfl, hr.mono mv⟩)
  refine wpIn_value hF (by simp [ho]) (v := .slice (some ⟨w.heap.size, 0, none⟩) m m) (w' := w.alloc (.cells news.toArray e')) (by simp only [execOp, ho, Sem.run_bind, hrun, Result.andThen_ok, Sem.run_pure]) ⟨_, _, ee, h2.put _ _ _ ?_, (Ext.push _ s β _ _).trans (Ext.put _ _ _ _)⟩
  exact ⟨⟨w.heap.size, 0, 1, m, m, true, none, []⟩, _, m, by rw [← h.bsize]; simp, rfl, Nat.le_refl _, by simp, .inl ⟨rfl, by simp [Bl.addr], by simp⟩⟩

theorem rowi_step (hF : FW F) (h : Rel C s β a w) {t : TypeId} {x i : Operand} (ho : o.op = .indexAddr t x i) {l len : Nat} {j : Int} (er : arowi P s t x i = some (l, len, j))
    (ee : gd (0 ≤ j) (gd (j < (len : Int)) (k (s.put o.dst (.one (.ptr l j.toNat))))) = some r) : o.wpIn F n P a w (After C s β (fun i => o.dst = some i) k r) Q := by
  unfold arowi at er
  split at er
  rotate_left
  · simp at er
  rename_i e l' off' len' q j' fr ht hx hi
  split at er
  rotate_left
  · simp at er
  rename_i T cs inf hob hinf
  split at er
  rotate_left
  · simp at er
  rename_i hsz
  obtain ⟨rfl, hsz⟩ := hsz
  simp only [Option.some.injEq, Prod.mk.injEq] at er
  obtain ⟨rfl, rfl, rfl⟩ := er
  obtain ⟨h0, ee⟩ := gd_some ee
  obtain ⟨h1, ee⟩ := gd_some ee
  obtain ⟨rr, A, c, hr, hv, hc, _, hsl⟩ := h.ev1 hx
  rcases hsl with ⟨hreal, rfl, _⟩ | ⟨hz, _⟩
  · have hobj : rr.base = 0 := by
      obtain ⟨f, b, hf, hb, hoR⟩ := h.obj hob (by simp)
      rw [hr] at hb; cases hb
      obtain ⟨vs, _, hb0, _⟩ := hoR
      exact hb0
    refine wpIn_value hF (by simp [ho]) (v := .pointer (rr.addr j'.toNat)) (w' := w) ?_ ⟨_, _, ee, h.put _ _ _ ⟨rr, hr, rfl⟩, Ext.put _ _ _ _⟩
    have hj := h.evInt hi
    simp only [execOp, ho, hv, hj, Bl.addr, Nat.zero_mul, Nat.add_zero, Sem.run_bind]
    rw [run_indexAt (aelem_some ht) hinf h0 h1, hsz]
    simp
  · omega
end
end Go.Proofs.AM
end

section
namespace Go.Proofs.AM
open Go Go.RowKit

section
variable {P : Program} {C : Cx} {s : AS} {β : List Bl} {a : Act} {w : World} {R : Type} {k : AS → Option R} {r : R} {F : Fence} {n : Nat} {Q : Exit → Act → World → Prop} {o : Oper}

theorem wrap0 : IntKind.wrap .i64 0 = 0 := rfl
theorem wrapN {n : Nat} (h : n ≤ 140737488355328) : IntKind.wrap .i64 (n : Int) = (n : Int) := by
  have e1 : IntKind.bits .i64 = 64 := rfl
  have e2 : IntKind.signed .i64 = true := rfl
  simp only [IntKind.wrap, e1, e2, Bool.true_and, Nat.add_one_sub_one]
  split <;> rename_i h <;> simp at h <;> omega

theorem run_append_inZ {t t' ty e : TypeId} {i : TypeInfo} {kk : IntKind} {z : Value} (ht : P.underlying t = some (.slice e)) (hu : P.underlying t' = some (.int kk)) (hi : P.info? e = some i) (hz : i.zero = some z) (hpos : 0 < i.size)
    {b o n c m : Nat} {w' : World} (hg : n + m ≤ c) (hb1 : (n + m) * i.bytes ≤ 140737488355328) (hb2 : n + m ≤ 140737488355328)
    (hs : (storeCells ⟨b, o + n * i.size, none⟩ (Builtin.zeroCells z.cells m).toList).run P w = .ok () w') :
    (Builtin.append_ #[t, t'] ty #[.slice (some ⟨b, o, none⟩) n c, .int .i64 (m : Nat)]).run P w = .ok (.slice (some ⟨b, o, none⟩) (n + m) c) w' := by
  have hw : IntKind.wrap .i64 (m : Int) = (m : Int) := wrapN (by omega)
  have h1 : ¬ ((m : Int) < 0) := by omega
  have hmb : m * i.bytes ≤ (n + m) * i.bytes := Nat.mul_le_mul_right _ (by omega)
  have h2 : ¬ ((281474976710656 : Int) < (m : Int) * (i.bytes : Int)) := by
    have : ((m * i.bytes : Nat) : Int) = (m : Int) * (i.bytes : Int) := by push_cast; rfl
    omega
  by_cases hm : m = 0
  · subst hm
    have hs' : (storeCells ⟨b, o + n * i.size, none⟩ []).run P w = .ok () w' := by simpa [Builtin.zeroCells] using hs
    have hww : w' = w := by
      have : (storeCells ⟨b, o + n * i.size, none⟩ []).run P w = .ok () w := rfl
      rw [this] at hs'; cases hs'; rfl
    subst hww
    have : ∀ q, (storeCells q []).run P w' = .ok () w' := fun q => rfl
    simp [Builtin.append_, run_underlying ht, run_underlying hu, asInt, asIntOf, wrap0, sizeOf, typeInfo, hi, show n ≤ c by omega, addr_add, this]
  · have hne : m * i.size ≠ 0 := Nat.mul_ne_zero hm (by omega)
    have hs0 : i.size ≠ 0 := by omega
    simp [Builtin.append_, run_underlying ht, run_underlying hu, asInt, asIntOf, hw, h1, h2, sizeOf, typeInfo, zeroValue, hi, hz, hm, hs0, hg, addr_add, hs]
    exact fun h => absurd h hne

theorem run_append_genZ {t t' ty e : TypeId} {i : TypeInfo} {kk : IntKind} {z : Value} (ht : P.underlying t = some (.slice e)) (hu : P.underlying t' = some (.int kk)) (hi : P.info? e = some i) (hz : i.zero = some z) (hpos : 0 < i.size)
    {A : Option Addr} {n c m : Nat} {olds : List Value}
    (ho : (Builtin.firstCells i.size n (.slice A n c)).run P w.drew = .ok olds.toArray w.drew)
    (hg : c < n + m) (hb1 : (n + m) * i.bytes ≤ 140737488355328) (hb2 : n + m ≤ 140737488355328) (hfit : Builtin.nextslicecap (n + m) c * i.bytes ≤ 281474976710656) :
    (Builtin.append_ #[t, t'] ty #[.slice A n c, .int .i64 (m : Nat)]).run P w =
      .ok (.slice (some ⟨w.heap.size, 0, none⟩) (n + m) (grownCap w (n + m) c e)) (w.drew.alloc (.cells (olds.toArray ++ (Builtin.zeroCells z.cells m).toList.toArray ++ Builtin.zeroCells z.cells (grownCap w (n + m) c e - (n + m))) e)) := by
  have hw : IntKind.wrap .i64 (m : Int) = (m : Int) := wrapN (by omega)
  have h1 : ¬ ((m : Int) < 0) := by omega
  have hmb : m * i.bytes ≤ (n + m) * i.bytes := Nat.mul_le_mul_right _ (by omega)
  have h2 : ¬ ((281474976710656 : Int) < (m : Int) * (i.bytes : Int)) := by
    have : ((m * i.bytes : Nat) : Int) = (m : Int) * (i.bytes : Int) := by push_cast; rfl
    omega
  have hn' : ¬ (n + m ≤ c) := by omega
  have h63' : ¬ (9223372036854775807 < ((n : Int) + (m : Int))) := by omega
  have h48' : ¬ (281474976710656 < Builtin.nextslicecap (n + m) c * i.bytes) := by omega
  by_cases hm : m = 0
  · subst hm
    simp [Builtin.append_, run_underlying ht, run_underlying hu, asInt, asIntOf, wrap0, sizeOf, typeInfo, zeroValue, hi, hz, show ¬ n ≤ c by omega, show ¬ (9223372036854775807 < (n : Int)) by omega, show ¬ (281474976710656 < Builtin.nextslicecap n c * i.bytes) from h48', Question.forced, ho, newRow, grownCap, Builtin.zeroCells]
  · have hs0 : i.size ≠ 0 := by omega
    simp [Builtin.append_, run_underlying ht, run_underlying hu, asInt, asIntOf, hw, h1, h2, sizeOf, typeInfo, zeroValue, hi, hz, hm, hs0, hn', h63', h48', Question.forced, ho, newRow, grownCap]
    exact fun h => absurd h (Nat.mul_ne_zero hm hs0)

theorem append_coreZ (h : Rel C s β a w) {t ty e : TypeId} {i : TypeInfo} {z : List AV} (ht : P.underlying t = some (.slice e)) (hi : P.info? e = some i) (hz : azero P e = some z) {q : K} (hsz : i.size = q.size) (hzl : z.length = q.size)
    {x : AV} {v : Value} (hx : x.R w (C.N s.heap β w) (C.fresh s.heap β w) β v) {xs : List q.den} {fr1 : Bool} {l : Option Nat} (eo : aowned s.heap e q x = some (xs, fr1, l))
    {t' : TypeId} {kk : IntKind} (hu : P.underlying t' = some (.int kk)) (hpos : 0 < i.size)
    {ys : List q.den} {fr2 : Bool} {news : List Value} (hrn : rows (q.rd w (if fr2 then C.fresh s.heap β w else C.N s.heap β w)) ys news)
    (hcn : ∀ zv, i.zero = some zv → news = (Builtin.zeroCells zv.cells ys.length).toList) (hb1 : (xs.length + ys.length) * i.bytes ≤ 140737488355328) (hb2 : xs.length + ys.length ≤ 140737488355328) :
    ∃ v' w' rr, (Builtin.append_ #[t, t'] ty #[v, .int .i64 (ys.length : Nat)]).run P w = .ok v' w' ∧ Rel C ((s.kill l).push (.vec e q (xs ++ ys) (fr1 && fr2))) (β ++ [rr]) a w' ∧
      (∃ A c, v' = .slice A rr.n c ∧ rr.n ≤ c ∧ rr.slice A 0 rr.n c) := by
  obtain ⟨A, c, olds, rfl, hnc, hro, hco, hkill, hcase⟩ := own_cells h hx eo
  obtain ⟨i', zv, hi', hzv, rfl⟩ := azero_some hz
  rw [hi] at hi'; cases hi'
  have lo := rows.len (fun x c => K.rd_len w _ q x c) hro
  have ln := rows.len (fun x c => K.rd_len w _ q x c) hrn
  have hone := rows.one hrn
  have hcn := hcn zv hzv
  by_cases hroom : xs.length + ys.length ≤ c
  · rcases hcase with hc0 | ⟨m, rr, f, ob, pre, post, cap, hm1, hm2, hm3, hocc, rfl, hh, hcap, hcc⟩
    · -- nothing there, nothing comes
      have hx0 : xs = [] := List.eq_nil_of_length_eq_zero (by omega)
      have hy0 : ys = [] := List.eq_nil_of_length_eq_zero (by omega)
      subst hx0 hy0
      have hn0 : news = [] := by simpa [rows] using hrn
      subst hn0
      have hrel := h.move (w' := w) l hkill (.vec e q ([] ++ []) (fr1 && fr2)) ⟨0, 0, q.size, 0, 0, false, none, []⟩ rfl rfl rfl (Nat.le_refl _) (fun _ _ _ => rfl) (fun b hb => by simp [AObj.occ] at hb)
        (fun _ _ _ => ⟨rfl, rfl, Nat.le_refl _, rfl⟩)
      refine ⟨.slice A 0 c, w, ⟨0, 0, q.size, 0, 0, false, none, []⟩, ?_, hrel, A, c, rfl, by simp, .inr ⟨rfl, hc0⟩⟩
      subst hc0
      have : ∀ q, (storeCells q []).run P w = .ok () w := fun q => rfl
      cases A with
      | none => simp [Builtin.append_, run_underlying ht, run_underlying hu, asInt, asIntOf, wrap0, sizeOf, typeInfo, hi]
      | some ad => simp [Builtin.append_, run_underlying ht, run_underlying hu, asInt, asIntOf, wrap0, sizeOf, typeInfo, hi, this]
    · -- in place
      have hcle : (xs.length + ys.length) * q.size ≤ olds.length + post.length := by rw [hcap]; exact Nat.mul_le_mul_right _ (by omega)
      have hpost : news.length ≤ post.length := by rw [lo, Nat.add_mul] at hcle; omega
      have hst := run_store_block (P := P) (w := w) (b := rr.blk) (o := pre.length + xs.length * i.size) (T := e) (pre := pre ++ olds) (old := post.take news.length) (post := post.drop news.length) (news := news)
        (by rw [hh]; simp) (by simp [lo, hsz]) (by simp; omega) hone
      have hrun := run_append_inZ (w' := w.setRow rr.blk (pre ++ olds ++ news ++ post.drop news.length).toArray) (ty := ty) ht hu hi hzv hpos (b := rr.blk) (o := pre.length) (n := xs.length) (c := c) (m := ys.length) hroom hb1 hb2
        (by rw [← hcn]; exact hst)
      obtain ⟨f1, f2, f3, f4, f5⟩ := setRow_facts w rr.blk (pre ++ olds ++ news ++ post.drop news.length).toArray
      have hlt := (h.occ m _ rr rr.blk hm2 hm3 hocc).1
      refine ⟨_, _, ⟨rr.blk, pre.length, q.size, xs.length + ys.length, cap, true, none, []⟩, hrun, ?_, _, c, rfl, hroom, .inl ⟨rfl, by simp [Bl.addr], by simpa using hcc⟩⟩
      refine h.move l hkill _ _ f1 f2 f3 (by omega) (fun b hb hx => f5 b (fun e => hx m _ rr hm1 hm2 hm3 (by rw [e]; exact hocc))) (fun b hb => ?_) (fun hN hNf hbl => ?_)
      · simp only [AObj.occ, if_true, List.mem_singleton] at hb
        subst hb
        exact ⟨by omega, .inr ⟨m, _, rr, hm1, hm2, hm3, hocc⟩⟩
      · refine ⟨by simp, rfl, by show xs.length + ys.length ≤ cap; omega, ?_⟩
        simp only [if_true]
        refine ⟨pre, olds ++ news, post.drop news.length, ?_, rfl, ?_, ?_⟩
        · rw [setRow_same hh]; simp
        · have up : ∀ g, (g = true → False) ∨ True → True := fun _ _ => trivial
          have tgt : ∀ b, (if (fr1 && fr2) = true then C.fresh s.heap β w else C.N s.heap β w) b → (if (fr1 && fr2) = true then C.fresh ((s.kill l).push (.vec e q (xs ++ ys) (fr1 && fr2))).heap (β ++ [⟨rr.blk, pre.length, q.size, xs.length + ys.length, cap, true, none, []⟩]) (w.setRow rr.blk (pre ++ olds ++ news ++ post.drop news.length).toArray) else C.N ((s.kill l).push (.vec e q (xs ++ ys) (fr1 && fr2))).heap (β ++ [⟨rr.blk, pre.length, q.size, xs.length + ys.length, cap, true, none, []⟩]) (w.setRow rr.blk (pre ++ olds ++ news ++ post.drop news.length).toArray)) b := fun b hb => by
            by_cases hg : (fr1 && fr2) = true
            · rw [if_pos hg] at hb ⊢; exact hNf b hb
            · rw [if_neg hg] at hb ⊢; exact hN b hb
          have same : ∀ b, (if (fr1 && fr2) = true then C.fresh s.heap β w else C.N s.heap β w) b → (w.setRow rr.blk (pre ++ olds ++ news ++ post.drop news.length).toArray).heap[b]? = w.heap[b]? := fun b hb => hbl b (by
            by_cases hg : (fr1 && fr2) = true
            · rw [if_pos hg] at hb; exact Cx.fresh_N hb
            · rw [if_neg hg] at hb; exact hb)
          exact (rows_weak same tgt (rows_weak (fun _ _ => rfl) (fun b hb => fl_weak hb (by simp; exact fun h _ => h)) hro)).app
            (rows_weak same tgt (rows_weak (fun _ _ => rfl) (fun b hb => fl_weak hb (by simp)) hrn))
        · simp only [List.length_append, List.length_drop]
          show olds.length + news.length + (post.length - news.length) = cap * q.size
          omega
  · -- new memory
    have hco' : xs.length = 0 ∨ ∃ b o, A = some ⟨b, o, none⟩ ∧ cellsAt w.drew b o olds := hco
    have ho' := run_firstCells' (P := P) (w := w.drew) (A := A) (len := xs.length) (c := c) (size := i.size) (news := olds) (m := xs.length) (by rw [lo, hsz]) hco'
    have hrun := run_append_genZ (ty := ty) ht hu hi hzv hpos ho' (by omega) hb1 hb2 (growslice_fits (by omega) hb1)
    rw [← hcn] at hrun
    have hge := grownCap_ge w (xs.length + ys.length) c e
    have hnew : (w.drew.alloc (.cells (olds.toArray ++ news.toArray ++ Builtin.zeroCells zv.cells (grownCap w (xs.length + ys.length) c e - (xs.length + ys.length))) e)).heap[w.heap.size]? =
        some (.cells (olds.toArray ++ news.toArray ++ Builtin.zeroCells zv.cells (grownCap w (xs.length + ys.length) c e - (xs.length + ys.length))) e) := heap_alloc_new w.drew _
    have hold : ∀ b, b < w.heap.size → (w.drew.alloc (.cells (olds.toArray ++ news.toArray ++ Builtin.zeroCells zv.cells (grownCap w (xs.length + ys.length) c e - (xs.length + ys.length))) e)).heap[b]? = w.heap[b]? :=
      fun b hb => (Grew.alloc w.drew _).block b hb
    have hzs := constTV_len zv
    refine ⟨_, _, ⟨w.heap.size, 0, q.size, xs.length + ys.length, grownCap w (xs.length + ys.length) c e, true, none, []⟩, hrun, ?_, _, _, rfl, hge, .inl ⟨rfl, by simp [Bl.addr], by simp⟩⟩
    refine h.move l hkill _ _ rfl rfl rfl (by simp) (fun b hb _ => hold b hb) (fun b hb => ?_) (fun hN hNf hbl => ?_)
    · simp only [AObj.occ, if_true, List.mem_singleton] at hb
      subst hb
      exact ⟨by simp, .inl (Nat.le_refl _)⟩
    · refine ⟨by simp, rfl, hge, ?_⟩
      simp only [if_true]
      refine ⟨[], olds ++ news, (Builtin.zeroCells zv.cells (grownCap w (xs.length + ys.length) c e - (xs.length + ys.length))).toList, ?_, rfl, ?_, ?_⟩
      · rw [hnew]; congr 2; apply Array.ext'; simp
      · generalize hW : (w.drew.alloc (.cells (olds.toArray ++ news.toArray ++ Builtin.zeroCells zv.cells (grownCap w (xs.length + ys.length) c e - (xs.length + ys.length))) e)) = W at *
        have tgt : ∀ b, (if (fr1 && fr2) = true then C.fresh s.heap β w else C.N s.heap β w) b → (if (fr1 && fr2) = true then C.fresh ((s.kill l).push (.vec e q (xs ++ ys) (fr1 && fr2))).heap (β ++ [⟨w.heap.size, 0, q.size, xs.length + ys.length, grownCap w (xs.length + ys.length) c e, true, none, []⟩]) W else C.N ((s.kill l).push (.vec e q (xs ++ ys) (fr1 && fr2))).heap (β ++ [⟨w.heap.size, 0, q.size, xs.length + ys.length, grownCap w (xs.length + ys.length) c e, true, none, []⟩]) W) b := fun b hb => by
          by_cases hg : (fr1 && fr2) = true
          · rw [if_pos hg] at hb ⊢; exact hNf b hb
          · rw [if_neg hg] at hb ⊢; exact hN b hb
        have same : ∀ b, (if (fr1 && fr2) = true then C.fresh s.heap β w else C.N s.heap β w) b → W.heap[b]? = w.heap[b]? := fun b hb => hbl b (by
          by_cases hg : (fr1 && fr2) = true
          · rw [if_pos hg] at hb; exact Cx.fresh_N hb
          · rw [if_neg hg] at hb; exact hb)
        exact (rows_weak same tgt (rows_weak (fun _ _ => rfl) (fun b hb => fl_weak hb (by simp; exact fun h _ => h)) hro)).app
          (rows_weak same tgt (rows_weak (fun _ _ => rfl) (fun b hb => fl_weak hb (by simp)) hrn))
      · simp only [List.length_append, lo, ln, Array.length_toList, size_zeroCells, ← hzs, hzl, ← Nat.add_mul]
        congr 1; omega

theorem zeroCells_rows (z : Array Value) (hz : 0 < z.size) (n : Nat) : (Builtin.zeroCells z n).toList = (List.replicate n z.toList).flatten := by
  have := madeCells_rows z.toList (by simpa using hz) n
  simp only [Array.toArray_toList, Array.length_toList] at this
  exact this

def amkA (P : Program) (s : AS) (o : Oper) (c : Call) (k : AS → Option R) : Option R :=
  match c.args.toList, c.argTypes.toList with
  | [x, y], [t, t'] => match aelem P t, P.underlying t', s.ev x, s.ev y with
    | some e, some (.int _), .one a, .one (.dat (.int .i64) n _) => match P.info? e, kindOf P 30 e, azero P e with
      | some i, some q, some z => match K.of s.heap false q z with
        | some (zd, true) => if 0 < i.size then gd (0 ≤ n) (aappendTo P s o.dst e q (List.replicate n.toNat zd) true a k) else none
        | _ => none
      | _, _, _ => none
    | _, _, _, _ => none
  | _, _ => none

theorem amkA_step (hF : FW F) (h : Rel C s β a w) {c : Call} (ho : o.op = .call c) (hcal : c.callee = .builtin .append) (ee : amkA P s o c k = some r) :
    o.wpIn F n P a w (After C s β (fun i => o.dst = some i) k r) Q := by
  unfold amkA at ee
  split at ee
  rotate_left
  · simp at ee
  rename_i x y t t' hargs htys
  have hargs' : c.args = #[x, y] := by rw [← Array.toArray_toList (xs := c.args), hargs]
  have htys' : c.argTypes = #[t, t'] := by rw [← Array.toArray_toList (xs := c.argTypes), htys]
  split at ee
  rotate_left
  · simp at ee
  rename_i e kk xa m fr ht hu hx hy
  split at ee
  rotate_left
  · simp at ee
  rename_i i q z hi hq hz
  split at ee
  rotate_left
  · simp at ee
  rename_i zd hzd
  split at ee
  rotate_left
  · simp at ee
  rename_i hpos
  obtain ⟨h0, e1⟩ := gd_some ee; clear ee
  obtain ⟨m', rfl⟩ : ∃ m' : Int, m' = m := ⟨m, rfl⟩
  have h0 : (0 : Int) ≤ m' := h0
  unfold aappendTo at e1
  split at e1
  rotate_left
  · simp at e1
  rename_i xs fr1 l i2 z2 hown hi2 hz2
  rw [hi] at hi2; cases hi2
  rw [hz] at hz2; cases hz2
  split at e1
  rotate_left
  · simp at e1
  rename_i hs
  obtain ⟨hb1, e2⟩ := gd_some e1; clear e1
  obtain ⟨hb2, ee⟩ := gd_some e2; clear e2
  obtain ⟨i', zv, hi', hzv, hzl, hzR⟩ := azero_R (C := C) (s := s) (β := β) (w := w) hz
  rw [hi] at hi'; cases hi'
  have hzr := of_sound h hzR hzd
  have hzlen := K.rd_len w _ q _ _ hzr
  have hev : a.eval y = .int .i64 m' := h.evInt hy
  have hlen : (List.replicate m'.toNat zd).length = m'.toNat := by simp
  have hm : (((List.replicate m'.toNat zd).length : Nat) : Int) = m' := by rw [hlen]; omega
  obtain ⟨_, _, _, _, _, _, _, hkl, _⟩ := own_cells h (h.ev1 hx) hown
  obtain ⟨v', w', rr, hrun, hrel, A, cc, hv', hcc, hsl⟩ := append_coreZ (ty := o.type) h (aelem_some ht) hi hz hs.1 hs.2 (h.ev1 hx) hown (t' := t') hu hpos
    (ys := List.replicate m'.toNat zd) (fr2 := true) (news := (List.replicate m'.toNat zv.cells.toList).flatten) (rows_replicate hzr _)
    (fun zv' hz' => by
      rw [hzv] at hz'; cases hz'
      rw [hlen, zeroCells_rows zv.cells (by rw [← hzl, hs.2, ← hs.1]; exact hpos)]) hb1 hb2
  refine wpIn_value hF (by simp [ho]) (v := v') (w' := w') ?_ ⟨_, _, ee, hrel.put _ _ _ ?_, ((Ext.kill _ s β l hkl).trans (Ext.push _ _ _ _ _)).trans (Ext.put _ _ _ _)⟩
  · rw [hm] at hrun
    simp only [execOp, ho, resolve, hcal, hargs', htys', List.map_toArray, List.map_cons, List.map_nil, Sem.run_bind, Sem.run_pure, Result.andThen_ok, invoke, builtin, hev, hrun]
  · exact ⟨rr, A, cc, by rw [← h.bsize]; simp, hv', hcc, hsl⟩

def aclear (P : Program) (s : AS) (o : Oper) (c : Call) (k : AS → Option R) : Option R :=
  match c.args.toList, c.argTypes.toList with
  | [x], [t] => match aelem P t, s.ev x with
    | some e, .one (.vw l off len) => match hat s.heap l, P.info? e, azero P e with
      | .vec T q xs fr, some i, some z => match K.of s.heap false q z with
        | some (zd, true) => if T = e ∧ i.size = q.size ∧ z.length = q.size ∧ 0 < i.size then gd (off + len ≤ xs.length) (k ((s.upd l (.vec T q (xs.take off ++ List.replicate len zd ++ xs.drop (off + len)) (fr && true))).put o.dst undefTV)) else none
        | _ => none
      | _, _, _ => none
    | _, _ => none
  | _, _ => none

theorem aclear_step (hF : FW F) (h : Rel C s β a w) {c : Call} (ho : o.op = .call c) (hcal : c.callee = .builtin .clear) (ee : aclear P s o c k = some r) :
    o.wpIn F n P a w (After C s β (fun i => o.dst = some i) k r) Q := by
  unfold aclear at ee
  split at ee
  rotate_left
  · simp at ee
  rename_i x t hargs htys
  have hargs' : c.args = #[x] := by rw [← Array.toArray_toList (xs := c.args), hargs]
  have htys' : c.argTypes = #[t] := by rw [← Array.toArray_toList (xs := c.argTypes), htys]
  split at ee
  rotate_left
  · simp at ee
  rename_i e l off len ht hx
  split at ee
  rotate_left
  · simp at ee
  rename_i T q xs fr i z hob hi hz
  split at ee
  rotate_left
  · simp at ee
  rename_i zd hzd
  split at ee
  rotate_left
  · simp at ee
  rename_i hs
  obtain ⟨rfl, hs1, hs2, hpos⟩ := hs
  obtain ⟨hle, ee⟩ := gd_some ee
  obtain ⟨i', zv, hi', hzv, hzl, hzR⟩ := azero_R (C := C) (s := s) (β := β) (w := w) hz
  rw [hi] at hi'; cases hi'
  have hzr := of_sound h hzR hzd
  obtain ⟨rr, A, dc, hr, hax, hdc, hoff, hsl⟩ := h.ev1 hx
  obtain ⟨f, b, hf, hb', g1, g2, g3, g4⟩ := h.obj hob (by simp)
  rw [hr] at hb'; cases hb'
  by_cases hz0 : len = 0
  · subst hz0
    have hsame : xs.take off ++ List.replicate 0 zd ++ xs.drop (off + 0) = xs := by simp
    have hrun : (execOp a.eval o).run P w = .ok (.value (.tuple #[])) w := by
      simp only [execOp, ho, resolve, hcal, hargs', htys', List.map_toArray, List.map_cons, List.map_nil, Sem.run_bind, Sem.run_pure, Result.andThen_ok, invoke, builtin, hax]
      cases A <;> simp [Builtin.clear_, run_underlying (aelem_some ht)]
    have hrel := weak_step h true hf
    rw [← hsame] at hrel
    exact wpIn_value hF (by simp [ho]) hrun ⟨_, _, ee, hrel.put _ _ _ undefTV_R, (Ext.upd _ s β _ _ (by rw [hf]; simp)).trans (Ext.put _ _ _ _)⟩
  · have hreal : rr.real = true ∧ A = rr.addr (off * rr.sz) := by
      rcases hsl with ⟨h1, h2, _⟩ | ⟨h1, _⟩
      · exact ⟨h1, by simpa using h2⟩
      · omega
    have hlr : (List.replicate len zd).length = len := by simp
    obtain ⟨w', hst, hrel⟩ := over_step (P := P) h hf hr hreal.1 (off := off) (ys := List.replicate len zd) (fr2 := true) (news := (List.replicate len zv.cells.toList).flatten) (by rw [hlr]; exact hle) (rows_replicate hzr _)
    rw [hlr] at hrel
    have hrun : (execOp a.eval o).run P w = .ok (.value (.tuple #[])) w' := by
      rw [← zeroCells_rows zv.cells (by rw [← hzl, hs2, ← hs1]; exact hpos)] at hst
      simp only [execOp, ho, resolve, hcal, hargs', htys', List.map_toArray, List.map_cons, List.map_nil, Sem.run_bind, Sem.run_pure, Result.andThen_ok, invoke, builtin, hax, hreal.2, Bl.addr, g2]
      simp [Builtin.clear_, run_underlying (aelem_some ht), zeroValue, typeInfo, hi, hzv, hz0, hst]
    exact wpIn_value hF (by simp [ho]) hrun ⟨_, _, ee, hrel.put _ _ _ undefTV_R, (Ext.upd _ s β _ _ (by rw [hf]; simp)).trans (Ext.put _ _ _ _)⟩
def aslice3D (P : Program) (s : AS) (o : Oper) (t : TypeId) (x : Operand) (lo : Option Operand) (hi mx : Operand) (k : AS → Option R) : Option R :=
  match aelem P t, s.ev x with
  | some e, .one (.dat (.sl q) xs fr) => match P.info? e, abound s 0 lo, abound s 0 (some hi), abound s 0 (some mx) with
    | some i, some l, some h, some m => if i.size = q.size then gd (0 ≤ l) (gd (l ≤ h) (gd (h ≤ m) (gd (m ≤ (List.length xs : Int))
        (k (s.put o.dst (.one (.dat (.sl q) (List.take (h.toNat - l.toNat) (List.drop l.toNat xs)) fr))))))) else none
    | _, _, _, _ => none
  | _, _ => none

theorem run_slice3 {t et : TypeId} (hu : P.underlying t = some (.slice et)) {inf : TypeInfo} (hinf : P.info? et = some inf) {A : Option Addr} {n cap : Nat} {lo : Option Value} {l h m : Int} {q1 q2 : IntKind}
    (hl : lo = none ∧ l = 0 ∨ ∃ q, lo = some (.int q l)) (h0 : 0 ≤ l) (h1 : l ≤ h) (h2 : h ≤ m) (h3 : m ≤ (n : Int)) (hc : n ≤ cap) :
    (Instr.sliceAt t (.slice A n cap) lo (some (.int q1 h)) (some (.int q2 m))).run P w = .ok (.slice (if m.toNat = l.toNat then A else A.map (·.add (l.toNat * inf.size))) (h.toNat - l.toNat) (m.toNat - l.toNat)) w := by
  have g1 : (Instr.sliceBound (.int q2 m) cap .slice3Acap).run P w = .ok m.toNat w := by
    unfold Instr.sliceBound
    simp only [Sem.run_bind, asIntOf, Sem.run_pure, Result.andThen_ok]
    rw [if_pos ⟨by omega, by omega⟩]; rfl
  have g2 : (Instr.sliceBound (.int q1 h) m.toNat .slice3B).run P w = .ok h.toNat w := by
    unfold Instr.sliceBound
    simp only [Sem.run_bind, asIntOf, Sem.run_pure, Result.andThen_ok]
    rw [if_pos ⟨by omega, by omega⟩]; rfl
  have g3 : ∀ q, (Instr.sliceBound (.int q l) h.toNat .slice3C).run P w = .ok l.toNat w := fun q => by
    unfold Instr.sliceBound
    simp only [Sem.run_bind, asIntOf, Sem.run_pure, Result.andThen_ok]
    rw [if_pos ⟨by omega, by omega⟩]; rfl
  unfold Instr.sliceAt Instr.slice Instr.sliceBounds
  rcases hl with ⟨rfl, rfl⟩ | ⟨q, rfl⟩
  · simp [Sem.run_bind, run_underlying' hu, Result.andThen_ok, g1, g2, run_sizeOf hinf, Sem.run_pure]
  · simp [Sem.run_bind, run_underlying' hu, Result.andThen_ok, g1, g2, g3 q, run_sizeOf hinf, Sem.run_pure]

theorem aslice3D_step (hF : FW F) (h : Rel C s β a w) {t : TypeId} {x hi mx : Operand} {lo : Option Operand} (ho : o.op = .slice t x lo (some hi) (some mx)) (ee : aslice3D P s o t x lo hi mx k = some r) :
    o.wpIn F n P a w (After C s β (fun i => o.dst = some i) k r) Q := by
  unfold aslice3D at ee
  split at ee
  rotate_left
  · simp at ee
  rename_i e q xs fr ht hx
  split at ee
  rotate_left
  · simp at ee
  rename_i inf l u m hinf hl hu hm
  split at ee
  rotate_left
  · simp at ee
  rename_i hsz
  obtain ⟨h0, e1⟩ := gd_some ee; clear ee
  obtain ⟨h1, e2⟩ := gd_some e1; clear e1
  obtain ⟨h2, e3⟩ := gd_some e2; clear e2
  obtain ⟨h3, ee⟩ := gd_some e3; clear e3
  obtain ⟨A, cap, hv, hcap, hcase⟩ := h.ev1 hx
  have hv : a.eval x = .slice A (List.length xs) cap := by simpa using hv
  have el := abound_sound h hl
  have eu : ∃ q', a.eval hi = .int q' u := by
    rcases abound_sound h hu with ⟨h1, _⟩ | ⟨q', h1⟩
    · simp at h1
    · exact ⟨q', by simpa using h1⟩
  have em : ∃ q', a.eval mx = .int q' m := by
    rcases abound_sound h hm with ⟨h1, _⟩ | ⟨q', h1⟩
    · simp at h1
    · exact ⟨q', by simpa using h1⟩
  obtain ⟨q1, eu⟩ := eu
  obtain ⟨q2, em⟩ := em
  have hrun := run_slice3 (P := P) (w := w) (aelem_some ht) hinf (A := A) (q1 := q1) (q2 := q2) el h0 h1 h2 h3 hcap
  refine wpIn_value hF (by simp [ho]) (v := .slice (if m.toNat = l.toNat then A else A.map (·.add (l.toNat * inf.size))) (u.toNat - l.toNat) (m.toNat - l.toNat)) (w' := w) ?_ ⟨_, _, ee, h.put _ _ _ ?_, Ext.put _ _ _ _⟩
  · simp only [execOp, ho, Sem.run_bind, Option.map_some, hv, eu, em, hrun, Result.andThen_ok, Sem.run_pure]
  · have hl' : (List.take (u.toNat - l.toNat) (List.drop l.toNat xs)).length = u.toNat - l.toNat := by simp; omega
    refine ⟨_, _, by rw [hl'], by rw [hl']; omega, ?_⟩
    rcases hcase with hz | ⟨b, off, es, rfl, hN, hc, hrow⟩
    · left; rw [hl']; omega
    · by_cases hcl : u.toNat - l.toNat = 0
      · left; rw [hl']; exact hcl
      right
      rw [if_neg (by omega)]
      refine ⟨b, off + l.toNat * inf.size, (es.drop (l.toNat * q.size)).take ((u.toNat - l.toNat) * q.size), by simp [addr_add], hN, ?_, ?_⟩
      · rw [hsz]; exact (hc.drop _).take _
      · have hsplit : xs = List.take l.toNat xs ++ (List.take (u.toNat - l.toNat) (List.drop l.toNat xs) ++ List.drop (u.toNat - l.toNat) (List.drop l.toNat xs)) := by
          rw [List.take_append_drop, List.take_append_drop]
        rw [hsplit] at hrow
        obtain ⟨m1, m2, rfl, r1, r2⟩ := rows.of_app hrow
        obtain ⟨m3, m4, rfl, r3, r4⟩ := rows.of_app r2
        have e1 := rows.len (fun x c => K.rd_len w _ q x c) r1
        have e3 := rows.len (fun x c => K.rd_len w _ q x c) r3
        rw [hl'] at e3
        have e1' : m1.length = l.toNat * q.size := by rw [e1]; congr 1; simp; omega
        rw [← e1', List.drop_left, ← e3, List.take_left]
        exact r3
end
end Go.Proofs.AM
end

section
namespace Go.Proofs.AM
open Go Go.RowKit

section
variable {P : Program} {C : Cx} {s : AS} {β : List Bl} {a : Act} {w : World} {R : Type} {k : AS → Option R} {r : R} {F : Fence} {n : Nat} {Q : Exit → Act → World → Prop} {o : Oper}

def ahole (P : Program) (s : AS) (o : Oper) (t : TypeId) (l i m : Nat) (k : AS → Option R) : Option R := match P.info? t, hat s.heap l with
  | some inf, .vec T (.sl q) xs fr => if inf.size = 1 then gd (i < xs.length) (k ((s.upd l (.hvec T q xs fr i m)).put o.dst (.one .junk))) else none
  | _, _ => none

theorem hole_step (hF : FW F) (h : Rel C s β a w) {t : TypeId} {x y : Operand} (ho : o.op = .store t x y) {l i m : Nat} (hx : s.ev x = .one (.vp l i 0)) (hy : s.ev y = .one (.vf m))
    (e : ahole P s o t l i m k = some r) : o.wpIn F n P a w (After C s β (fun i => o.dst = some i) k r) Q := by
  unfold ahole at e
  split at e
  rotate_left
  · simp at e
  rename_i inf T q xs fr hi hob
  split at e
  rotate_left
  · simp at e
  rename_i hsz
  obtain ⟨hj, e⟩ := gd_some e
  have hv := h.ev1 hy
  obtain ⟨rr, hr, hax⟩ := h.ev1 hx
  obtain ⟨f, b, hf, hb, g1, g2, g3, g4⟩ := h.obj hob (by simp)
  rw [hr] at hb; cases hb
  have hreal : rr.real = true := by
    cases hq : rr.real with
    | true => rfl
    | false => simp only [hq] at g4; have g4 : rr.n = 0 := g4; omega
  simp only [hreal, if_true] at g4
  obtain ⟨pre, mid, post, hh, hp, hrow, hcap⟩ := g4
  have hsplit : xs = xs.take i ++ (xs[i] :: xs.drop (i + 1)) := by rw [List.getElem_cons_drop, List.take_append_drop]
  have hrow' := hrow
  rw [hsplit] at hrow'
  obtain ⟨m1, m2, rfl, r1, c, m3, rfl, r2, r3⟩ := rows.of_app hrow'
  have g2 : rr.sz = 1 := g2
  have e1 := rows.len (fun x c => K.rd_len w _ (K.sl q) x c) r1
  have e1' : m1.length = i := by rw [e1]; simp [K.size]; omega
  have hclen : c.length = 1 := K.rd_len w _ (K.sl q) _ _ r2
  obtain ⟨hcells, hone⟩ := AV.R_one hv rfl
  have hst := run_store_block (P := P) (w := w) (b := rr.blk) (o := rr.base + i) (T := T) (pre := pre ++ m1) (old := c) (post := m3 ++ post) (news := [a.eval y])
    (by rw [hh]; simp) (by simp [hp, e1']) (by simp [hclen]) (by simpa using hone)
  have hrun : (execOp a.eval o).run P w = .ok .skip (w.setRow rr.blk (pre ++ m1 ++ [a.eval y] ++ (m3 ++ post)).toArray) := by
    have hax' : a.eval x = .pointer (some ⟨rr.blk, rr.base + i, none⟩) := by rw [hax, Bl.addr, g2]; simp
    simp only [execOp, ho, hax', Instr.storeAt, Instr.sureAddr, storeVar, Sem.run_bind, Sem.run_pure, Result.andThen_ok, run_sizeOf hi]
    rw [if_neg (by rw [hcells, hsz]; simp)]
    rw [hcells]
    simp only [Sem.run_bind, hst, Sem.run_pure, Result.andThen_ok]
  obtain ⟨f1, f2, f3, f4, f5⟩ := setRow_facts w rr.blk (pre ++ m1 ++ [a.eval y] ++ (m3 ++ post)).toArray
  obtain ⟨h2, mv⟩ := h.upd l _ (.hvec T q xs fr i m) rr hf hr f1 f2 f3 (by omega) (fun b _ hb => f5 b (fun e => hb (by simp [AObj.occ, e, hreal]))) (by simp) (fun b hb => by simpa [AObj.occ, hreal] using hb)
    (fun mv hN hNf hbl => by
      have up : ∀ (x : (K.sl q).den) (cc : List Value), (K.sl q).rd w (if fr = true then C.fresh s.heap β w else C.N s.heap β w) x cc →
          (K.sl q).rd (w.setRow rr.blk (pre ++ m1 ++ [a.eval y] ++ (m3 ++ post)).toArray) (if fr = true then C.fresh (s.heap.set l (true, .hvec T q xs fr i m)) β (w.setRow rr.blk (pre ++ m1 ++ [a.eval y] ++ (m3 ++ post)).toArray) else C.N (s.heap.set l (true, .hvec T q xs fr i m)) β (w.setRow rr.blk (pre ++ m1 ++ [a.eval y] ++ (m3 ++ post)).toArray)) x cc := by
        intro x cc hx
        cases fr
        · exact K.rd_mono (fun b hb => hbl b hb) hN _ _ _ hx
        · exact K.rd_mono (fun b hb => hbl b (Cx.fresh_N hb)) hNf _ _ _ hx
      refine ⟨pre, m1, a.eval y, m3, post, mv _ _ hv, by rw [setRow_same hh]; simp, g1, g2, g3, hreal, hj, hp, ?_, r1.mono up, r3.mono up⟩
      rw [← hcap]; simp [hclen]; omega)
  exact wpIn_skip' hF (by simp [ho]) hrun ⟨_, _, e, h2.put _ _ _ trivial, (Ext.upd _ s β _ _ (by rw [hf]; simp)).trans (Ext.put _ _ _ _)⟩

def closeAt (s : AS) (l : Nat) : AS := match hat s.heap l with
  | .hvec T q xs fr i m => match hat s.heap m with
    | .vec _ q' ys fr' => if e : q' = q then (s.upd l (.vec T (.sl q) (@List.set (K.sl q).den xs i (e ▸ ys)) (fr && fr'))).upd m .dead else s
    | _ => s
  | _ => s

theorem close_at (h : Rel C s β a w) (hnf : ∀ b, ¬ C.F b) (l : Nat) : Rel C (closeAt s l) β a w ∧ Ext (fun _ => False) s (closeAt s l) β β := by
  unfold closeAt
  split
  rotate_left
  · exact ⟨h, Ext.refl _ _ _⟩
  rename_i T q xs fr i m hob
  split
  rotate_left
  · exact ⟨h, Ext.refl _ _ _⟩
  rename_i T' q' ys fr' hom
  split
  rotate_left
  · exact ⟨h, Ext.refl _ _ _⟩
  rename_i hq
  subst hq
  obtain ⟨f, rr, hf, hr, pre, m1, v, m2, post, hv, hh, g1, g2, g3, g4, g5, g6, g7, r1, r2⟩ := h.obj hob (by simp)
  obtain ⟨f', rm, hf', hrm, k1, k2, k3, k4⟩ := h.obj hom (by simp)
  have hlm : l ≠ m := fun e => by subst e; rw [hf] at hf'; simp at hf'
  have hll := (List.getElem?_eq_some_iff.1 hf).1
  have hml := (List.getElem?_eq_some_iff.1 hf').1
  generalize hO : AObj.vec T (K.sl q') (@List.set (K.sl q').den xs i ys) (fr && fr') = O
  have hocO : O.occ rr = [rr.blk] := by rw [← hO]; simp [AObj.occ, g4]
  generalize hH : ((s.heap.set l (true, O)).set m (true, AObj.dead)) = H
  have atl : H[l]? = some (true, O) := by rw [← hH, List.getElem?_set_ne (Ne.symm hlm), List.getElem?_set_self hll]
  have atm : H[m]? = some (true, .dead) := by rw [← hH, List.getElem?_set_self (by simpa using hml)]
  have ato : ∀ j, j ≠ l → j ≠ m → H[j]? = s.heap[j]? := fun j h1 h2 => by rw [← hH, List.getElem?_set_ne (Ne.symm h2), List.getElem?_set_ne (Ne.symm h1)]
  have hlen : H.length = s.heap.length := by rw [← hH]; simp
  have which : ∀ (j : Nat) (o : Bool × AObj), H[j]? = some o → ((j = l ∨ j = m) ∨ s.heap.length ≤ j) → (j = l ∧ o = (true, O)) ∨ (j = m ∧ o = (true, .dead)) := by
    intro j o ho hj
    rcases hj with (rfl | rfl) | hj
    · rw [atl] at ho; exact .inl ⟨rfl, by simpa using ho.symm⟩
    · rw [atm] at ho; exact .inr ⟨rfl, by simpa using ho.symm⟩
    · have := (List.getElem?_eq_some_iff.1 ho).1; omega
  have blkm : rm.real = true → C.fresh H β w rm.blk := by
    intro hre
    have hx : rm.blk ∈ (AObj.vec T' q' ys fr').occ rm := by simp [AObj.occ, hre]
    obtain ⟨h1, h2⟩ := h.occ m _ rm rm.blk hf' hrm hx
    refine ⟨h2.resolve_right (hnf _), h1, fun j o r1 ho hr1 hb => ?_⟩
    by_cases hj : j = l ∨ j = m
    · rcases which j o ho (.inl hj) with ⟨rfl, rfl⟩ | ⟨rfl, rfl⟩
      · rw [hr] at hr1; cases hr1
        have hb : rm.blk ∈ O.occ rr := hb
        rw [hocO] at hb
        exact hlm (h.apart j m _ _ rr rm rm.blk hf hr hf' hrm (by simpa [AObj.occ] using hb) hx)
      · simp [AObj.occ] at hb
    · rw [ato j (fun e => hj (.inl e)) (fun e => hj (.inr e))] at ho
      exact hj (.inr (h.apart j m o _ r1 rm rm.blk ho hr1 hf' hrm hb hx))
  have main := h.gen H [] w (fun j => j = l ∨ j = m) rfl rfl rfl (Nat.le_refl _) (by simp [hlen])
    (fun j o hj hn => ⟨o, by rw [ato j (fun e => hn (.inl e)) (fun e => hn (.inr e))]; exact hj, rfl⟩)
    (fun j _ hj => by rw [ato j (fun e => by subst e; rw [hf] at hj; simp at hj) (fun e => by subst e; rw [hf'] at hj; simp at hj)]; exact hj)
    (fun _ _ _ => rfl)
    (fun j o r0 b ho hr0 hj hb => by
      simp only [List.append_nil] at hr0
      rcases which j o ho hj with ⟨rfl, rfl⟩ | ⟨rfl, rfl⟩
      · rw [hr] at hr0; cases hr0
        have hb : b ∈ O.occ rr := hb
        rw [hocO] at hb
        have hb' : b ∈ (AObj.hvec T q' xs fr i m).occ rr := by simpa [AObj.occ] using hb
        exact ⟨(h.occ j _ rr b hf hr hb').1, .inr ⟨j, _, rr, hf, hr, .inl rfl, hb'⟩⟩
      · simp [AObj.occ] at hb)
    (fun j j' o o' r0 r0' b ho hr0 ho' hr0' hj hj' hb hb' => by
      rcases which j o ho hj with ⟨rfl, rfl⟩ | ⟨rfl, rfl⟩
      · rcases which j' o' ho' hj' with ⟨rfl, rfl⟩ | ⟨rfl, rfl⟩
        · rfl
        · simp [AObj.occ] at hb'
      · simp [AObj.occ] at hb)
    (fun j o r0 ho hr0 hj mv hN hNf _ => by
      simp only [List.append_nil] at hr0 mv hN hNf ⊢
      rcases which j o ho hj with ⟨rfl, rfl⟩ | ⟨rfl, rfl⟩
      · rw [hr] at hr0; cases hr0
        show O.R _ _ _ _ _
        rw [← hO]
        have up : ∀ (x : (K.sl q').den) (cc : List Value), (K.sl q').rd w (if fr = true then C.fresh s.heap β w else C.N s.heap β w) x cc →
            (K.sl q').rd w (if (fr && fr') = true then C.fresh H β w else C.N H β w) x cc := by
          intro x cc hx
          cases fr
          · exact K.rd_mono (fun _ _ => rfl) hN _ _ _ hx
          · cases fr'
            · exact K.rd_mono (fun _ _ => rfl) (fun b hb => hN b (Cx.fresh_N hb)) _ _ _ hx
            · exact K.rd_mono (fun _ _ => rfl) hNf _ _ _ hx
        have up2 : ∀ (x : q'.den) (cc : List Value), q'.rd w (if fr' = true then C.fresh s.heap β w else C.N s.heap β w) x cc →
            q'.rd w (if (fr && fr') = true then C.fresh H β w else C.N H β w) x cc := by
          intro x cc hx
          cases fr'
          · rw [Bool.and_false]; exact K.rd_mono (fun _ _ => rfl) hN _ _ _ hx
          · cases fr
            · exact K.rd_mono (fun _ _ => rfl) (fun b hb => hN b (Cx.fresh_N hb)) _ _ _ hx
            · exact K.rd_mono (fun _ _ => rfl) hNf _ _ _ hx
        refine ⟨by simpa using g1, g2, g3, ?_⟩
        simp only [g4, if_true]
        refine ⟨pre, m1 ++ v :: m2, post, hh, g6, ?_, g7⟩
        rw [List.set_eq_take_append_cons_drop, if_pos g5]
        refine (r1.mono up).app ⟨[v], m2, rfl, ?_, r2.mono up⟩
        obtain ⟨rm', A, c, q1, q2, q3, q4⟩ := hv
        rw [hrm] at q1; cases q1
        refine ⟨A, c, by rw [q2, k1], by rw [← k1]; exact q3, ?_⟩
        rcases q4 with ⟨hre, hA, hc⟩ | ⟨h0, _⟩
        rotate_left
        · left; rw [← k1]; exact h0
        right
        simp only [hre, if_true] at k4
        obtain ⟨pre', mid', post', hh', hp', hrow', _⟩ := k4
        have hfb := blkm hre
        refine ⟨rm.blk, rm.base, mid', by rw [hA]; simp [Bl.addr], ?_, ?_, hrow'.mono up2⟩
        · cases hb : (fr && fr')
          · exact Cx.fresh_N hfb
          · exact hfb
        · rw [← hp']; exact cellsAt_block hh'
      · trivial)
  have hs : (s.upd l O).upd m .dead = { s with heap := H } := by simp only [AS.upd, hH]
  rw [hs]
  refine ⟨by simpa using main.1, ?_⟩
  rw [← hs]
  have x1 := Ext.upd (fun _ => False) s β l O (by rw [hf]; simp)
  have x2 := Ext.upd (fun _ => False) (s.upd l O) β m .dead (by
    show (s.heap.set l _)[m]? ≠ _
    rw [List.getElem?_set_ne hlm, hf']; simp)
  exact x1.trans x2

def closeL : List Nat → AS → AS
  | [], s => s
  | l :: r, s => closeL r (closeAt s l)

theorem close_L (hnf : ∀ b, ¬ C.F b) : ∀ (ls : List Nat) {s : AS}, Rel C s β a w → Rel C (closeL ls s) β a w ∧ Ext (fun _ => False) s (closeL ls s) β β
  | [], s, h => ⟨h, Ext.refl _ _ _⟩
  | l :: r, s, h => by
    obtain ⟨h1, e1⟩ := close_at h hnf l
    obtain ⟨h2, e2⟩ := close_L hnf r h1
    exact ⟨h2, e1.trans e2⟩

def Env.shut (Γ : Env) (id : Nat) (s : AS) : AS := match Γ.imm.contains (300000 + id) with
  | true => closeL (List.range s.heap.length) s
  | false => s

def Env.NF (Γ : Env) (C : Cx) : Prop := (Γ.imm.any fun i => Nat.ble 300000 i) = true → ∀ b, ¬ C.F b

theorem Env.NF.of {Γ : Env} (h : (Γ.imm.any fun i => Nat.ble 300000 i) = false) : Γ.NF C := fun h' => by rw [h] at h'; simp at h'

theorem Env.NF.shut {Γ : Env} (hn : Γ.NF C) (id : Nat) (h : Rel C s β a w) : Rel C (Γ.shut id s) β a w ∧ Ext (fun _ => False) s (Γ.shut id s) β β := by
  unfold Env.shut
  split
  · rename_i hc
    refine close_L (hn ?_) _ h
    rw [List.any_eq_true]
    exact ⟨300000 + id, by simpa using hc, by rw [Nat.ble_eq]; omega⟩
  · exact ⟨h, Ext.refl _ _ _⟩
end
end Go.Proofs.AM
end

section
namespace Go.Proofs.AM
open Go Go.RowKit

def litTV (b : Bool) : TV := .one (.dat .bool b true)

def gslot (ops : Array Oper) (j : Nat) : Option Nat := match ops[j]? with
  | some o => o.dst
  | none => none

section
variable {R : Type}

def aop (P : Program) (Γ : Env) (ops : Array Oper) (o : Oper) (s : AS) (k : AS → Option R) : Option R :=
  match o.guard with
  | none => astep P Γ s o k
  | some (j, want) => match gslot ops j with
    | none => none
    | some d => match s.tmps[d]? with
      | some (.one (.dat .bool b _)) =>
        cond b (if want = true then astep P Γ (s.put (some d) (litTV true)) o k else k ((s.put (some d) (litTV true)).put o.dst undefTV))
          (if want = true then k ((s.put (some d) (litTV false)).put o.dst undefTV) else astep P Γ (s.put (some d) (litTV false)) o k)
      | some (.tup []) => k (s.put o.dst undefTV)
      | _ => none

def methodOf (P : Program) (t : TypeId) (name : String) : Option FuncId := match P.underlying t with
  | some (.pointer _) => match P.info? t with
    | some i => match i.methods.find? (·.name == name) with
      | some m => match m.path.toList, m.func with
        | [], some (f, true) => some f
        | _, _ => none
      | none => none
    | none => none
  | _ => none

def aholds (h : Heap) (l : Nat) : Option (TypeId × Nat) := match hat h l with
  | .box T cs => some (T, cs.length)
  | .dbox T q _ _ => some (T, q.size)
  | _ => none

def astepI (P : Program) (Γ : Env) (s : AS) (o : Oper) (k : AS → Option R) : Option R :=
  match o.op with
  | .call c => match c.callee with
    | .value f => match s.ev f with
      | .one (.fn fid caps) => match Γ.inl fid with
        | some d => d.run Γ.yl R s.heap (c.args.toList.map s.ev ++ caps.map (fun l => .one (.ptr l 0))) (fun h tv => k ({ s with heap := h }.put o.dst tv))
        | none => astep P Γ s o k
      | .one (.yl l) => match lookY Γ.yl l with
        | some H => H R s.heap (c.args.toList.map s.ev) (fun h tv => k ({ s with heap := h }.put o.dst tv))
        | none => none
      | _ => none
    | .invoke x name => match s.ev x with
      | .one (.ifc t a) => match methodOf P t name with
        | some fid => match Γ.inl fid with
          | some d => d.run Γ.yl R s.heap (.one a :: c.args.toList.map s.ev) (fun h tv => k ({ s with heap := h }.put o.dst tv))
          | none => match Γ.hd fid with
            | some d => acallH d s (.one a :: c.args.toList.map s.ev) (fun s' tv => k (s'.put o.dst tv))
            | none => acall Γ s fid (.one a :: c.args.toList.map s.ev) (fun tv => k (s.put o.dst tv))
        | none => none
      | _ => none
    | .builtin .append => match c.argTypes.toList with
      | [t, t'] => if t = t' then astep P Γ s o k else amkA P s o c k
      | _ => astep P Γ s o k
    | .builtin .clear => aclear P s o c k
    | _ => astep P Γ s o k
  | .store t x y => match s.ev x, s.ev y with
    | .one (.ptr l 0), .dat q z fr => match P.info? t, aholds s.heap l with
      | some i, some (T, n) => if i.size = q.size ∧ n = q.size then k ((s.upd l (.dbox T q z (fr || q.flat))).put o.dst (.one .junk)) else none
      | _, _ => none
    | .one (.vp l i 0), .one (.vf m) => ahole P s o t l i m k
    | _, _ => astep P Γ s o k
  | .slice t x lo (some hi) (some mx) => match s.ev x with
    | .one (.dat _ _ _) => aslice3D P s o t x lo hi mx k
    | _ => astep P Γ s o k
  | .indexAddr t x i => match arowi P s t x i with
    | some (l, len, n) => gd (0 ≤ n) (gd (n < (len : Int)) (k (s.put o.dst (.one (.ptr l n.toNat)))))
    | none => astep P Γ s o k
  | .buildSlice t m parts => match arowp P s t m parts.toList with
    | some (e, cs) => k ((s.push (.box e cs)).put o.dst (.one (.vw s.heap.length 0 m)))
    | none => astep P Γ s o k
  | _ => astep P Γ s o k

def aopI (P : Program) (Γ : Env) (ops : Array Oper) (o : Oper) (s : AS) (k : AS → Option R) : Option R :=
  match o.guard with
  | none => astepI P Γ s o k
  | some (j, want) => match gslot ops j with
    | none => none
    | some d => match s.tmps[d]? with
      | some (.one (.dat .bool b _)) =>
        cond b (if want = true then astepI P Γ (s.put (some d) (litTV true)) o k else k ((s.put (some d) (litTV true)).put o.dst undefTV))
          (if want = true then k ((s.put (some d) (litTV false)).put o.dst undefTV) else astepI P Γ (s.put (some d) (litTV false)) o k)
      | some (.tup []) => k (s.put o.dst undefTV)
      | _ => none

open Classical in
noncomputable def both (a b : Option R) : Option R := if a = b then a else none

theorem both_some {a b : Option R} {r : R} (h : both a b = some r) : a = some r ∧ b = some r := by
  unfold both at h
  split at h
  · rename_i e; exact ⟨h, e ▸ h⟩
  · simp at h

def anil (P : Program) (s : AS) (o : Oper) : Option (Bool × Bool) := match o.op, o.guard with
  | .binOp .eql t x (.const (.slice none 0 0)) _, none => match aelem P t, s.ev x with
    | some _, .one (.dat (.sl _) xs _) => some (decide ((List.length xs : Int) = 0), false)
    | some _, .one (.vf l) => match hat s.heap l with
      | .vec _ _ xs _ => some (decide ((List.length xs : Int) = 0), false)
      | _ => none
    | _, _ => none
  | .binOp .neq t x (.const (.slice none 0 0)) _, none => match aelem P t, s.ev x with
    | some _, .one (.dat (.sl _) xs _) => some (decide ((List.length xs : Int) = 0), true)
    | some _, .one (.vf l) => match hat s.heap l with
      | .vec _ _ xs _ => some (decide ((List.length xs : Int) = 0), true)
      | _ => none
    | _, _ => none
  | _, _ => none

def amnz (Γ : Env) (s : AS) (o : Oper) : Option (TypeId × Int) := match o.op, o.guard with
  | .call c, none => match c.callee with
    | .value (.func f) => match Γ.mnz f, c.args.toList with
      | some (_, e), [x] => match s.ev x with
        | .one (.dat (.int .i64) n _) => some (e, n)
        | _ => none
      | _, _ => none
    | _ => none
  | _, _ => none

noncomputable def aops (P : Program) (Γ : Env) (ops : Array Oper) : List Oper → AS → (AS → Option R) → Option R
  | [], s, k => k s
  | o :: l, s, k => match anil P s o with
    | some (e, n) => both (aops P Γ ops l (s.put o.dst (.one (.dat .bool (cond n (!e) e) true))) k) (aops P Γ ops l (s.put o.dst (.one (.dat .bool n true))) k)
    | none => match amnz Γ s o with
      | some (e, n) => gd (0 ≤ n) (gd (n ≤ 140737488355328) (anyBytes n fun xs => aops P Γ ops l (s.made false o.dst e (.int .u8) xs true) k))
      | none => aopI P Γ ops o s fun s' => aops P Γ ops l s' k
end

section
variable {P : Program} {C : Cx} {s : AS} {β : List Bl} {a : Act} {w : World} {R : Type} {k : AS → Option R} {r : R} {F : Fence} {n : Nat} {Q : Exit → Act → World → Prop} {o : Oper}

def OpOK (F : Fence) (n : Nat) (P : Program) (ops : Array Oper) (o : Oper) (a : Act) (w : World) (K : Act → World → Prop) (Q : Exit → Act → World → Prop) : Prop :=
  if Region.wanted o (yielded ops a.tmps) then o.wpIn F n P a w K Q else K (a.put o.dst undef) w

theorem Rel.lit (h : Rel C s β a w) {d : Nat} {b f : Bool} (e : s.tmps[d]? = some (.one (.dat .bool b f))) : Rel C (s.put (some d) (litTV b)) β a w ∧ a.tmps.getD d undef = .bool b := by
  have hv : a.tmps.getD d undef = .bool b := by simpa [TV.R, AV.R, K.rd] using h.tm d _ e
  have hl := (List.getElem?_eq_some_iff.1 e).1
  have := h.put (some d) (litTV b) (.bool b) (by simp [litTV, TV.R, AV.R, K.rd])
  refine ⟨?_, hv⟩
  have hsame : a.put (some d) (.bool b) = a := by
    have hd : d < a.tmps.size := by rw [h.tsize]; exact hl
    have : a.tmps.setIfInBounds d (.bool b) = a.tmps := by
      apply Array.ext
      · simp
      · intro i h1 h2
        rw [Array.getElem_setIfInBounds h2]
        split
        · rename_i hi; subst hi
          rw [← hv]; simp [hd]
        · rfl
    simp [Act.put, this]
  rwa [hsame] at this

theorem aop_sound (hF : FW F) {Γ : Env} (hΓ : Γ.Sound P) (h : Rel C s β a w) {ops : Array Oper} (e : aop P Γ ops o s k = some r) :
    OpOK F n P ops o a w (After C s β (fun i => o.dst = some i ∨ ∃ j want, o.guard = some (j, want) ∧ gslot ops j = some i) k r) Q := by
  have wk : ∀ {s1 : AS} {β1 : List Bl} {a' : Act} {w' : World}, After C s β (fun i => o.dst = some i) k r a' w' → After C s β (fun i => o.dst = some i ∨ ∃ j want, o.guard = some (j, want) ∧ gslot ops j = some i) k r a' w' :=
    fun ⟨s', β', h1, h2, h3⟩ => ⟨s', β', h1, h2, h3.mono fun i hi => .inl hi⟩
  unfold aop at e
  unfold OpOK
  split at e
  · rename_i hg
    have hw : Region.wanted o (yielded ops a.tmps) = true := by simp [Region.wanted, hg]
    rw [if_pos hw]
    have := step_sound (F := F) (n := n) (Q := Q) hF hΓ h e
    exact Oper.wpIn_mono (fun a' w' hh => wk (s1 := s) (β1 := β) hh) this
  · rename_i j want hg
    split at e
    · simp at e
    rename_i d hd
    have hyield : yielded ops a.tmps j = (match a.tmps.getD d undef with | .bool b => some b | _ => none) := by
      unfold gslot at hd
      cases ho : ops[j]? with
      | none => simp [ho] at hd
      | some oj =>
        simp only [ho] at hd
        unfold yielded
        simp [ho, hd]
        cases a.tmps[d]? with
        | none => rfl
        | some v => cases v <;> rfl
    split at e
    · rename_i b f hb
      obtain ⟨h1, hv⟩ := h.lit hb
      have hwant : Region.wanted o (yielded ops a.tmps) = (b == want) := by
        unfold Region.wanted
        rw [hg]
        simp only [hyield, hv]
        cases b <;> cases want <;> rfl
      have step : astep P Γ (s.put (some d) (litTV b)) o k = some r → o.wpIn F n P a w (After C s β (fun i => o.dst = some i ∨ ∃ j want, o.guard = some (j, want) ∧ gslot ops j = some i) k r) Q := fun e => by
        have := step_sound (F := F) (n := n) (Q := Q) hF hΓ h1 e
        refine Oper.wpIn_mono (fun a' w' hh => ?_) this
        obtain ⟨s', β', g1, g2, g3⟩ := hh
        exact ⟨s', β', g1, g2, ((Ext.put s β (some d) (litTV b)).mono fun i hi => .inr ⟨j, want, hg, by rw [hd]; exact hi⟩).trans (g3.mono fun i hi => .inl hi)⟩
      have skip : k ((s.put (some d) (litTV b)).put o.dst undefTV) = some r → After C s β (fun i => o.dst = some i ∨ ∃ j want, o.guard = some (j, want) ∧ gslot ops j = some i) k r (a.put o.dst undef) w := fun e =>
        ⟨_, _, e, h1.put _ _ _ undefTV_R, ((Ext.put s β (some d) (litTV b)).mono fun i hi => .inr ⟨j, want, hg, by rw [hd]; exact hi⟩).trans ((Ext.put _ _ _ _).mono fun i hi => .inl hi)⟩
      rw [hwant]
      cases b <;> cases want
      · exact step e
      · exact skip e
      · exact skip e
      · exact step e
    · rename_i hb
      have hv : a.tmps.getD d undef = .tuple #[] := by
        obtain ⟨vs, hv, hvs⟩ := h.tm d _ hb
        match vs, hvs with
        | [], _ => exact hv
      have hwant : Region.wanted o (yielded ops a.tmps) = false := by
        unfold Region.wanted
        rw [hg]
        simp only [hyield, hv]
        rfl
      rw [hwant]
      exact ⟨_, _, e, h.put _ _ _ undefTV_R, (Ext.put _ _ _ _).mono fun i hi => .inl hi⟩
    · simp at e

theorem grown_ext {h' : Heap} {β' : List Bl} (hg : Grown s.heap h' β β') (d : Nat → Prop) : Ext d s { s with heap := h' } β β' :=
  ⟨hg.bx, fun _ _ => rfl, rfl, hg.hl, hg.hp, ⟨[], rfl⟩, hg.hm⟩

theorem RoundIn.wide {F : Fence} (hF : FW F) {m n l : Nat} {f : FuncId} {tmps : Array Value} {assign body : Code} {R : Ending → World → Prop} (h : RoundIn Fence.wide m P l f tmps assign body w R) : RoundIn F n P l f tmps assign body w R := by
  have h0 : RoundIn Fence.wide n P l f tmps assign body w R := ⟨h.1, fun c cs hr => h.2 c cs (room_wide _)⟩
  rcases hF with rfl | ⟨l', rfl⟩
  · exact h0
  · exact h0

theorem methodOf_run {t : TypeId} {name : String} {f : FuncId} (hm : methodOf P t name = some f) (fuel : Nat) (v : Value) : (method (fuel + 1) t v name).run P w = .ok (f, v) w := by
  unfold methodOf at hm
  split at hm
  rotate_left
  · simp at hm
  rename_i el hu
  split at hm
  rotate_left
  · simp at hm
  rename_i i hi
  split at hm
  rotate_left
  · simp at hm
  rename_i m hf
  split at hm
  rotate_left
  · simp at hm
  rename_i f' hp hfn
  simp only [Option.some.injEq] at hm
  subst hm
  unfold method
  simp only [Sem.run_bind, run_typeInfo w hi, Result.andThen_ok, hf, hp, follow, Sem.run_pure, hfn]
  unfold receiverAt
  simp only [Sem.run_bind, run_underlying' hu, Result.andThen_ok, Place.get, Sem.run_pure]

theorem invoke_run {c : Call} (ho : o.op = .call c) {x : Operand} {name : String} (hc : c.callee = .invoke x name) {t : TypeId} {u : Value} (hv : a.eval x = .iface t u) {fid : FuncId} (hm : methodOf P t name = some fid)
    (hcall : ∀ args w, (callFunc fid args).run P w = .ok (.enter fid args) w) : (execOp a.eval o).run P w = .ok (.enter fid (u :: c.args.toList.map a.eval).toArray) w := by
  have e1 : ((#[Value.iface t u] ++ c.args.map a.eval).extract 1 (#[Value.iface t u] ++ c.args.map a.eval).size) = c.args.map a.eval := by
    apply Array.ext'
    simp [List.take_of_length_le]
  have e2 : (#[Value.iface t u] ++ c.args.map a.eval)[0]? = some (.iface t u) := by
    rw [Array.getElem?_append_left (by simp)]; rfl
  have e3 : P.types.size + Made.depth = (P.types.size + (Made.depth - 1)) + 1 := by
    have : 0 < Made.depth := by decide
    omega
  have e4 : ∀ as, (callMethod (.iface t u) name as).run P w = .ok (.enter fid (#[u] ++ as)) w := fun as => by
    unfold callMethod
    show (method (P.types.size + Made.depth) t u name >>= fun p => callFunc p.1 (#[p.2] ++ as)).run P w = _
    rw [e3, Sem.run_bind, methodOf_run hm]
    simp only [Result.andThen_ok, hcall]
  have e5 : (invoke (.fn (.method name) #[]) (#[Value.iface t u] ++ c.args.map a.eval)).run P w = .ok (.enter fid (u :: c.args.toList.map a.eval).toArray) w := by
    simp only [invoke, e2, e1, e4]
    congr 2
    apply Array.ext'; simp
  simp only [execOp, ho, resolve, hc, Sem.run_bind, Sem.run_pure, Result.andThen_ok, hv]
  exact e5

theorem aholds_some (h : Rel C s β a w) {l m : Nat} {T : TypeId} (e : aholds s.heap l = some (T, m)) :
    ∃ f ob rr vs, s.heap[l]? = some (f, ob) ∧ β[l]? = some rr ∧ ob.occ rr = [rr.blk] ∧ ob ≠ .mark ∧ w.heap[rr.blk]? = some (.cells (List.toArray vs) T (0, 0)) ∧ rr.base = 0 ∧ vs.length = m := by
  unfold aholds at e
  split at e
  · rename_i T' cs hob
    simp only [Option.some.injEq, Prod.mk.injEq] at e
    obtain ⟨rfl, rfl⟩ := e
    obtain ⟨f, rr, hf, hb, vs, hh, hz, hc⟩ := h.obj hob (by simp)
    exact ⟨f, _, rr, vs, hf, hb, rfl, by simp, hh, hz, hc.len.symm⟩
  · rename_i T' q y fr hob
    simp only [Option.some.injEq, Prod.mk.injEq] at e
    obtain ⟨rfl, rfl⟩ := e
    obtain ⟨f, rr, hf, hb, vs, hh, hz, hc⟩ := h.obj hob (by simp)
    exact ⟨f, _, rr, vs, hf, hb, rfl, by simp, hh, hz, K.rd_len _ _ _ _ _ hc⟩
  · simp at e

theorem dstore_step (hF : FW F) (h : Rel C s β a w) {t : TypeId} {x y : Operand} (ho : o.op = .store t x y) {l : Nat} (hx : s.ev x = .one (.ptr l 0)) {q : K} {z : q.den} {fr : Bool} (hy : s.ev y = .dat q z fr) {inf : TypeInfo} (hi : P.info? t = some inf)
    {T : TypeId} {m : Nat} (hm : aholds s.heap l = some (T, m)) (h1 : inf.size = q.size) (h2 : m = q.size) (ee : k ((s.upd l (.dbox T q z (fr || q.flat))).put o.dst (.one .junk)) = some r) :
    o.wpIn F n P a w (After C s β (fun i => o.dst = some i) k r) Q := by
  obtain ⟨f, ob, rr, vs, hf, hb, hocc, hmk, hh, hz, hvl⟩ := aholds_some h hm
  have hv := h.ev y
  rw [hy] at hv
  obtain ⟨us, hu, hr⟩ := TV.dat_R.1 hv
  have hul := K.rd_len _ _ _ _ _ hr
  have hone := K.rd_one q z us hr
  obtain ⟨r0, hr0, hax⟩ := h.ev1 hx
  rw [hb] at hr0; cases hr0
  have hst := run_store_block (P := P) (w := w) (b := rr.blk) (o := 0) (T := T) (pre := []) (old := vs) (post := []) (news := us)
    (by rw [hh]; simp) (by simp) (by omega) hone
  obtain ⟨f1, f2, f3, f4, f5⟩ := setRow_facts w rr.blk ([] ++ us ++ []).toArray
  have hr' : q.rd w (if (fr || q.flat) then C.fresh s.heap β w else C.N s.heap β w) z us := by
    cases hfl : q.flat with
    | true => exact K.rd_flat _ _ _ hfl hr
    | false => rw [Bool.or_false]; exact hr
  generalize (fr || q.flat) = g at ee hr'
  obtain ⟨g2, mv⟩ := h.upd l _ (.dbox T q z g) rr hf hb f1 f2 f3 (by omega) (fun b _ hb' => f5 b (fun e => hb' (by rw [hocc]; simp [e]))) hmk (fun b hb => by rw [hocc]; exact hb)
    (fun mv hN hNf hbl => ⟨us, by simpa using setRow_same hh, hz, by
      cases g
      · exact K.rd_mono hbl hN _ _ _ hr'
      · exact K.rd_mono (fun b hb => hbl b (Cx.fresh_N hb)) hNf _ _ _ hr'⟩)
  have hrun : (execOp a.eval o).run P w = .ok .skip (w.setRow rr.blk ([] ++ us ++ []).toArray) := by
    have hcells : (a.eval y).cells.toList = us := by rw [hu]; simp [Value.cells]
    have hax' : a.eval x = .pointer (some ⟨rr.blk, 0, none⟩) := by rw [hax, Bl.addr, hz]
    have hst' : (storeCells ⟨rr.blk, 0, none⟩ (a.eval y).cells.toList).run P w = .ok () (w.setRow rr.blk ([] ++ us ++ []).toArray) := by rw [hcells]; exact hst
    simp only [execOp, ho, hax', Instr.storeAt, Instr.sureAddr, storeVar, Sem.run_bind, Sem.run_pure, Result.andThen_ok, run_sizeOf hi]
    rw [if_neg (by rw [← Array.length_toList, hcells, hul, h1]; simp)]
    simp only [Sem.run_bind, hst', Sem.run_pure, Result.andThen_ok]
  exact wpIn_skip' hF (by simp [ho]) hrun ⟨_, _, ee, g2.put _ _ _ trivial, (Ext.upd _ s β _ _ (by rw [hf]; intro e; simp only [Option.some.injEq, Prod.mk.injEq] at e; exact hmk e.2)).trans (Ext.put _ _ _ _)⟩

theorem stepI_sound (hF : FW F) {Γ : Env} (hΓ : Γ.Sound P) (hY : YOK P C β Γ.yl) (h : Rel C s β a w) (ee : astepI P Γ s o k = some r) :
    o.wpIn F n P a w (After C s β (fun i => o.dst = some i) k r) Q := by
  unfold astepI at ee
  split at ee
  · rename_i c ho
    split at ee
    · rename_i f hc
      split at ee
      · rename_i fid caps hf
        split at ee
        · rename_i d hd
          have hds := hΓ.inl _ d hd
          obtain ⟨bs, hv, hb⟩ := h.ev1 hf
          refine wpIn_enter hF (by simp [ho]) (f := fid) (args := (c.args.toList.map a.eval ++ bs).toArray) (w' := w) (enter_run ho hc hv hds.1)
            (hds.2 C β Γ.yl R _ _ r s ee a w _ (hY.mono (CxLe.push C s a) ⟨[], by simp⟩) h ((call_args h c.args.toList).app (call_caps hb))) ?_
          rintro e' w'' ⟨v, h', tv, β', rfl, hk, hr, ht, hg⟩
          exact ⟨v, rfl, _, _, hk, hr.put _ _ _ ht, (grown_ext hg _).trans (Ext.put _ _ _ _)⟩
        · exact step_sound hF hΓ h ee
      · rename_i l hf
        split at ee
        rotate_left
        · simp at ee
        rename_i H hH
        obtain ⟨rr, hr, hv⟩ := h.ev1 hf
        obtain ⟨rr', hr', hh⟩ := hY l H hH
        rw [hr] at hr'; cases hr'
        obtain ⟨fn, tmps, assign, body, hy, hround⟩ := hh C (CxLe.refl C) R _ _ r s ee β a w _ ⟨[], by simp⟩ h (call_args h c.args.toList)
        have hrun : (execOp a.eval o).run P w = .ok (.round rr.blk fn tmps assign body) w := by
          simp only [execOp, ho, resolve, hc, Deferred.ofValue, hv, Sem.run_bind, Sem.run_pure, Result.andThen_ok, invoke]
          have harr : (List.map a.eval c.args.toList).toArray = Array.map a.eval c.args := by apply Array.ext'; simp
          rw [harr] at hy
          simpa using hy
        refine wpIn_round hF (by simp [ho]) hrun (RoundIn.wide hF hround) ?_
        rintro e' w'' ⟨v, h', tv, β', rfl, hk, hrel, ht, hg⟩
        exact ⟨v, rfl, _, _, hk, hrel.put _ _ _ ht, (grown_ext hg _).trans (Ext.put _ _ _ _)⟩
      · simp at ee
    · rename_i x name hc
      split at ee
      rotate_left
      · simp at ee
      rename_i t av hx
      split at ee
      rotate_left
      · simp at ee
      rename_i fid hm
      obtain ⟨u, hv, hu⟩ := h.ev1 hx
      have hargs : All2 (TV.R w (C.N s.heap β w) (C.fresh s.heap β w) β) (.one av :: c.args.toList.map s.ev) (u :: c.args.toList.map a.eval) := ⟨hu, call_args h c.args.toList⟩
      split at ee
      · rename_i d hd
        have hds := hΓ.inl _ d hd
        refine wpIn_enter hF (by simp [ho]) (f := fid) (args := (u :: c.args.toList.map a.eval).toArray) (w' := w) (invoke_run ho hc hv hm hds.1)
          (hds.2 C β Γ.yl R _ _ r s ee a w _ (hY.mono (CxLe.push C s a) ⟨[], by simp⟩) h hargs) ?_
        rintro e' w'' ⟨v, h', tv, β', rfl, hk, hr, ht, hg⟩
        exact ⟨v, rfl, _, _, hk, hr.put _ _ _ ht, (grown_ext hg _).trans (Ext.put _ _ _ _)⟩
      · split at ee
        · rename_i d hd
          have hd := hΓ.hd _ d hd
          unfold acallH at ee
          split at ee
          · simp at ee
          rename_i xx hxx
          obtain ⟨y, hy, ee⟩ := Option.bind_eq_some_iff.1 ee
          refine wpIn_enter hF (by simp [ho]) (f := fid) (args := (u :: c.args.toList.map a.eval).toArray) (w' := w) (invoke_run ho hc hv hm hd.1) (hd.2 xx y hy C s β a w _ _ h hargs hxx) ?_
          rintro e' w'' ⟨v, β', rfl, hr, ht, hg⟩
          exact ⟨v, rfl, _, _, ee, hr.put _ _ _ ht, (grown_ext hg _).trans (Ext.put _ _ _ _)⟩
        · obtain ⟨hcall, hs⟩ := acall_sound h hΓ hargs ee
          refine wpIn_enter hF (by simp [ho]) (f := fid) (args := (u :: c.args.toList.map a.eval).toArray) (w' := w) (invoke_run ho hc hv hm hcall) hs ?_
          rintro e' w'' ⟨v, tv, rfl, hk, hg, hr⟩
          obtain ⟨h2, mv⟩ := h.grew hg
          exact ⟨v, rfl, _, _, hk, h2.put _ _ _ hr, Ext.put _ _ _ _⟩
    · rename_i hc
      split at ee
      · split at ee
        · exact step_sound hF hΓ h ee
        · exact amkA_step hF h ho hc ee
      · exact step_sound hF hΓ h ee
    · rename_i hc
      exact aclear_step hF h ho hc ee
    · exact step_sound hF hΓ h ee
  · rename_i t x y ho
    split at ee
    · rename_i l q z fr hx hy
      split at ee
      rotate_left
      · simp at ee
      rename_i inf T m hi hm
      split at ee
      rotate_left
      · simp at ee
      rename_i hc
      exact dstore_step hF h ho hx hy hi hm hc.1 hc.2 ee
    · rename_i l i m hx hy
      exact hole_step hF h ho hx hy ee
    · exact step_sound hF hΓ h ee
  · rename_i t x lo hi mx ho
    split at ee
    · exact aslice3D_step hF h ho ee
    · exact step_sound hF hΓ h ee
  · rename_i t x i ho
    split at ee
    · rename_i l len j hi
      exact rowi_step hF h ho hi ee
    · exact step_sound hF hΓ h ee
  · rename_i t m parts ho
    split at ee
    · rename_i e cs hi
      exact rowp_step hF h ho hi ee
    · exact step_sound hF hΓ h ee
  · exact step_sound hF hΓ h ee

theorem aopI_sound (hF : FW F) {Γ : Env} (hΓ : Γ.Sound P) (hY : YOK P C β Γ.yl) (h : Rel C s β a w) {ops : Array Oper} (e : aopI P Γ ops o s k = some r) :
    OpOK F n P ops o a w (After C s β (fun i => o.dst = some i ∨ ∃ j want, o.guard = some (j, want) ∧ gslot ops j = some i) k r) Q := by
  have wk : ∀ {s1 : AS} {β1 : List Bl} {a' : Act} {w' : World}, After C s β (fun i => o.dst = some i) k r a' w' → After C s β (fun i => o.dst = some i ∨ ∃ j want, o.guard = some (j, want) ∧ gslot ops j = some i) k r a' w' :=
    fun ⟨s', β', h1, h2, h3⟩ => ⟨s', β', h1, h2, h3.mono fun i hi => .inl hi⟩
  unfold aopI at e
  unfold OpOK
  split at e
  · rename_i hg
    have hw : Region.wanted o (yielded ops a.tmps) = true := by simp [Region.wanted, hg]
    rw [if_pos hw]
    have := stepI_sound (F := F) (n := n) (Q := Q) hF hΓ hY h e
    exact Oper.wpIn_mono (fun a' w' hh => wk (s1 := s) (β1 := β) hh) this
  · rename_i j want hg
    split at e
    · simp at e
    rename_i d hd
    have hyield : yielded ops a.tmps j = (match a.tmps.getD d undef with | .bool b => some b | _ => none) := by
      unfold gslot at hd
      cases ho : ops[j]? with
      | none => simp [ho] at hd
      | some oj =>
        simp only [ho] at hd
        unfold yielded
        simp [ho, hd]
        cases a.tmps[d]? with
        | none => rfl
        | some v => cases v <;> rfl
    split at e
    · rename_i b f hb
      obtain ⟨h1, hv⟩ := h.lit hb
      have hwant : Region.wanted o (yielded ops a.tmps) = (b == want) := by
        unfold Region.wanted
        rw [hg]
        simp only [hyield, hv]
        cases b <;> cases want <;> rfl
      have step : astepI P Γ (s.put (some d) (litTV b)) o k = some r → o.wpIn F n P a w (After C s β (fun i => o.dst = some i ∨ ∃ j want, o.guard = some (j, want) ∧ gslot ops j = some i) k r) Q := fun e => by
        have := stepI_sound (F := F) (n := n) (Q := Q) hF hΓ hY h1 e
        refine Oper.wpIn_mono (fun a' w' hh => ?_) this
        obtain ⟨s', β', g1, g2, g3⟩ := hh
        exact ⟨s', β', g1, g2, ((Ext.put s β (some d) (litTV b)).mono fun i hi => .inr ⟨j, want, hg, by rw [hd]; exact hi⟩).trans (g3.mono fun i hi => .inl hi)⟩
      have skip : k ((s.put (some d) (litTV b)).put o.dst undefTV) = some r → After C s β (fun i => o.dst = some i ∨ ∃ j want, o.guard = some (j, want) ∧ gslot ops j = some i) k r (a.put o.dst undef) w := fun e =>
        ⟨_, _, e, h1.put _ _ _ undefTV_R, ((Ext.put s β (some d) (litTV b)).mono fun i hi => .inr ⟨j, want, hg, by rw [hd]; exact hi⟩).trans ((Ext.put _ _ _ _).mono fun i hi => .inl hi)⟩
      rw [hwant]
      cases b <;> cases want
      · exact step e
      · exact skip e
      · exact skip e
      · exact step e
    · rename_i hb
      have hv : a.tmps.getD d undef = .tuple #[] := by
        obtain ⟨vs, hv, hvs⟩ := h.tm d _ hb
        match vs, hvs with
        | [], _ => exact hv
      have hwant : Region.wanted o (yielded ops a.tmps) = false := by
        unfold Region.wanted
        rw [hg]
        simp only [hyield, hv]
        rfl
      rw [hwant]
      exact ⟨_, _, e, h.put _ _ _ undefTV_R, (Ext.put _ _ _ _).mono fun i hi => .inl hi⟩
    · simp at e

theorem anil_sound (h : Rel C s β a w) {e n' : Bool} (he : anil P s o = some (e, n')) :
    o.guard = none ∧ (∀ c, o.op ≠ .defer c) ∧ ∃ b, (execOp a.eval o).run P w = .ok (.value (.bool b)) w ∧ (b = cond n' (!e) e ∨ b = n') := by
  unfold anil at he
  split at he
  · rename_i t x ty ho hg
    split at he
    · rename_i el q xs f ht hx
      simp only [Option.some.injEq, Prod.mk.injEq] at he
      obtain ⟨rfl, rfl⟩ := he
      obtain ⟨A, c, hv, hle, hA⟩ := h.ev1 hx
      refine ⟨hg, by simp [ho], A.isNone, ?_, ?_⟩
      · have hc : a.eval (.const (.slice none 0 0)) = .slice none 0 0 := rfl
        have hv : a.eval x = .slice A (List.length xs) c := by simpa using hv
        simp only [execOp, ho, hv, hc]
        simp [eqGuard, binOp, run_equal_slice_nil w t el A _ c (aelem_some ht)]
      · cases A with
        | none =>
          left
          rcases hA with hA | ⟨b, o', es, hA, _⟩
          · simp [hA]
          · simp at hA
        | some _ => right; rfl
    · rename_i el l ht hx
      split at he
      rotate_left
      · simp at he
      rename_i T q xs fr hob
      simp only [Option.some.injEq, Prod.mk.injEq] at he
      obtain ⟨rfl, rfl⟩ := he
      obtain ⟨r, A, c, hr, hv, hle, hsl⟩ := h.ev1 hx
      obtain ⟨f, b, hf, hb, hn, _⟩ := h.obj hob (by simp)
      rw [hr] at hb; cases hb
      refine ⟨hg, by simp [ho], A.isNone, ?_, ?_⟩
      · have hc : a.eval (.const (.slice none 0 0)) = .slice none 0 0 := rfl
        simp only [execOp, ho, hv, hc]
        simp [eqGuard, binOp, run_equal_slice_nil w t el A _ c (aelem_some ht)]
      · cases A with
        | none =>
          left
          rcases hsl with ⟨_, hA, _⟩ | ⟨hz, _⟩
          · simp [Bl.addr] at hA
          · have : List.length xs = 0 := by omega
            simp [this]
        | some _ => right; rfl
    · simp at he
  · rename_i t x ty ho hg
    split at he
    · rename_i el q xs f ht hx
      simp only [Option.some.injEq, Prod.mk.injEq] at he
      obtain ⟨rfl, rfl⟩ := he
      obtain ⟨A, c, hv, hle, hA⟩ := h.ev1 hx
      refine ⟨hg, by simp [ho], !A.isNone, ?_, ?_⟩
      · have hc : a.eval (.const (.slice none 0 0)) = .slice none 0 0 := rfl
        have hv : a.eval x = .slice A (List.length xs) c := by simpa using hv
        simp only [execOp, ho, hv, hc]
        simp [eqGuard, binOp, run_equal_slice_nil w t el A _ c (aelem_some ht)]
      · cases A with
        | none =>
          left
          rcases hA with hA | ⟨b, o', es, hA, _⟩
          · simp [hA]
          · simp at hA
        | some _ => right; rfl
    · rename_i el l ht hx
      split at he
      rotate_left
      · simp at he
      rename_i T q xs fr hob
      simp only [Option.some.injEq, Prod.mk.injEq] at he
      obtain ⟨rfl, rfl⟩ := he
      obtain ⟨r, A, c, hr, hv, hle, hsl⟩ := h.ev1 hx
      obtain ⟨f, b, hf, hb, hn, _⟩ := h.obj hob (by simp)
      rw [hr] at hb; cases hb
      refine ⟨hg, by simp [ho], !A.isNone, ?_, ?_⟩
      · have hc : a.eval (.const (.slice none 0 0)) = .slice none 0 0 := rfl
        simp only [execOp, ho, hv, hc]
        simp [eqGuard, binOp, run_equal_slice_nil w t el A _ c (aelem_some ht)]
      · cases A with
        | none =>
          left
          rcases hsl with ⟨_, hA, _⟩ | ⟨hz, _⟩
          · simp [Bl.addr] at hA
          · have : List.length xs = 0 := by omega
            simp [this]
        | some _ => right; rfl
    · simp at he
  · simp at he

theorem amnz_some {Γ : Env} {e : TypeId} {n : Int} (hm : amnz Γ s o = some (e, n)) : o.guard = none ∧ ∃ c f t x, o.op = .call c ∧ c.callee = .value (.func f) ∧ Γ.mnz f = some (t, e) ∧ c.args.toList = [x] ∧ ∃ fz, s.ev x = .one (.dat (.int .i64) n fz) := by
  unfold amnz at hm
  split at hm
  rotate_left
  · simp at hm
  rename_i c ho hg
  split at hm
  rotate_left
  · simp at hm
  rename_i f hc
  split at hm
  rotate_left
  · simp at hm
  rename_i t e' x h1 h2
  split at hm
  rotate_left
  · simp at hm
  rename_i n' fz hx
  simp only [Option.some.injEq, Prod.mk.injEq] at hm
  obtain ⟨rfl, rfl⟩ := hm
  exact ⟨hg, c, f, t, x, ho, hc, h1, h2, fz, hx⟩

theorem vec_after (h : Rel C s β a w) {e : TypeId} {q : K} {xs : List q.den} {fr : Bool} {mid post : List Value} {cap : Nat}
    (hrow : rows (q.rd w (if fr then C.fresh s.heap β w else C.N s.heap β w)) xs mid) (hcap : mid.length + post.length = cap * q.size) (hle : xs.length ≤ cap)
    (ee : k (s.made false o.dst e q xs fr) = some r) : After C s β (fun i => o.dst = some i) k r (a.put o.dst (.slice (some ⟨w.heap.size, 0, none⟩) xs.length cap)) (w.alloc (.cells (mid ++ post).toArray e)) := by
  have hnew : (w.alloc (.cells (mid ++ post).toArray e)).heap[w.heap.size]? = some (.cells (mid ++ post).toArray e) := heap_alloc_new w _
  obtain ⟨h2, mv⟩ := h.push (Grew.alloc w (.cells (mid ++ post).toArray e)) (.vec e q xs fr) ⟨w.heap.size, 0, q.size, xs.length, cap, true, none, []⟩ (fun b hb => by simp only [AObj.occ, if_true, List.mem_singleton] at hb; subst hb; simp)
    (fun mv hN hNf => by
      refine ⟨rfl, rfl, hle, ?_⟩
      simp only [if_true]
      refine ⟨[], mid, post, by rw [hnew]; simp, rfl, ?_, hcap⟩
      refine rows_weak (fun b hb => ?_) (fun b hb => ?_) hrow
      · refine (Grew.alloc w _).block b ?_
        cases fr
        · exact hb.2.1
        · exact hb.2.1
      · cases fr
        · exact hN b hb
        · exact hNf b hb)
  refine ⟨_, _, ee, h2.put _ _ _ ?_, (Ext.push _ s β _ _).trans (Ext.put _ _ _ _)⟩
  exact ⟨⟨w.heap.size, 0, q.size, xs.length, cap, true, none, []⟩, _, cap, by rw [← h.bsize]; simp, rfl, hle, .inl ⟨rfl, by simp [Bl.addr], by simp⟩⟩

def rdst (ops : Array Oper) (i : Nat) : Prop := ∃ o ∈ ops, o.dst = some i

theorem aops_sound (hF : FW F) {Γ : Env} (hΓ : Γ.Sound P) {ops : Array Oper} : ∀ (l : List Oper) (i : Nat), ops.toList.drop i = l → ∀ {s : AS} {β : List Bl} {a : Act} {w : World} {k : AS → Option R}, YOK P C β Γ.yl → Rel C s β a w → aops P Γ ops l s k = some r →
    (∀ a' w', After C s β (rdst ops) k r a' w' → Q .normal a' w') → wpOpsIn F n P ops Q (List.range' i l.length) a w
  | [], i, hl, s, β, a, w, k, hY, h, e, hQ => hQ a w ⟨s, β, e, h, Ext.refl _ _ _⟩
  | o :: l, i, hl, s, β, a, w, k, hY, h, e, hQ => by
    have ho : ops[i]? = some o := by
      have : (ops.toList.drop i)[0]? = some o := by rw [hl]; rfl
      simpa using this
    have hl' : ops.toList.drop (i + 1) = l := by
      have : (ops.toList.drop i).drop 1 = l := by rw [hl]; rfl
      rwa [List.drop_drop] at this
    have hmem : ∀ (j : Nat) (oj : Oper), ops[j]? = some oj → ∀ d, oj.dst = some d → rdst ops d := fun j oj hj d hd => ⟨oj, Array.mem_of_getElem? hj, hd⟩
    unfold aops at e
    split at e
    · rename_i ee nn hnil
      obtain ⟨e1, e2⟩ := both_some e
      obtain ⟨hg, hd, b, hrun, hb⟩ := anil_sound h hnil
      have hw : Region.wanted o (yielded ops a.tmps) = true := by simp [Region.wanted, hg]
      have goOn : ∀ b' : Bool, b = b' → aops P Γ ops l (s.put o.dst (.one (.dat .bool b' true))) k = some r → wpOpsIn F n P ops Q (List.range' i (o :: l).length) a w := by
        rintro b' rfl e'
        have h1 : Rel C (s.put o.dst (.one (.dat .bool b true))) β (a.put o.dst (.bool b)) w := h.put _ _ _ (by simp [TV.R, AV.R, K.rd])
        simp only [List.length_cons, List.range'_succ, wpOpsIn, ho]
        rw [if_pos hw]
        refine wpIn_value hF hd hrun (aops_sound hF hΓ l (i + 1) hl' hY h1 e' ?_)
        rintro a'' w'' ⟨s'', β'', q1, q2, q3⟩
        exact hQ a'' w'' ⟨s'', β'', q1, q2, ((Ext.put s β o.dst _).mono fun d hd => hmem i o ho d hd).trans q3⟩
      rcases hb with hb | hb
      · exact goOn _ hb e1
      · exact goOn _ hb e2
    split at e
    · rename_i e0 n0 hmz
      obtain ⟨q0, e1⟩ := gd_some e; clear e
      obtain ⟨q1, e⟩ := gd_some e1; clear e1
      obtain ⟨hg, c, f, t, x, hop, hcal, hmzf, hargs, fz, hx⟩ := amnz_some hmz
      have hw : Region.wanted o (yielded ops a.tmps) = true := by simp [Region.wanted, hg]
      simp only [List.length_cons, List.range'_succ, wpOpsIn, ho]
      rw [if_pos hw]
      obtain ⟨ht, hrunf⟩ := hΓ.mnz f t e0 hmzf
      obtain ⟨m, rfl⟩ : ∃ m : Nat, n0 = m := ⟨n0.toNat, by omega⟩
      obtain ⟨lz, hr, hle⟩ := bytes_run (P := P) w #[] t e0 ht m (by omega)
      have hex : (execOp a.eval o).run P w = .ok (.value (.slice (some ⟨w.heap.size, 0, none⟩) (lz.take m).length lz.length)) (w.drew.drew.alloc (.cells (((lz.take m).map (Value.int .u8)) ++ ((lz.drop m).map (Value.int .u8))).toArray e0)) := by
        have hax : c.args.map a.eval = #[.int .i64 m] := by
          apply Array.ext'
          rw [Array.toList_map, hargs]
          simp [h.evInt hx]
        have hlen : (lz.take m).length = m := by simp; omega
        rw [hlen, ← List.map_append, List.take_append_drop]
        simp only [execOp, hop, resolve, hcal, Sem.run_bind, Act.eval, Deferred.ofValue, Sem.run_pure, Result.andThen_ok, invoke, Array.append_empty]
        rw [show Array.map a.eval c.args = #[.int .i64 m] from hax, hrunf, Array.empty_append, hr]
        rfl
      have e := anyBytes_some e (xs := lz.take m) (by simp; omega)
      obtain ⟨h2, _⟩ := h.grew ((Grew.drew w).trans (Grew.drew w.drew))
      have hrow : rows ((K.int .u8).rd w.drew.drew (if true then C.fresh s.heap β w.drew.drew else C.N s.heap β w.drew.drew)) (lz.take m) ((lz.take m).map (Value.int .u8)) := by
        generalize lz.take m = l0
        induction l0 with
        | nil => rfl
        | cons y l0 ih => exact ⟨[.int .u8 y], _, rfl, rfl, ih⟩
      refine wpIn_value hF (by simp [hop]) hex ?_
      obtain ⟨s', β', g1, g2, g3⟩ := vec_after h2 (e := e0) (q := .int .u8) (xs := lz.take m) (fr := true) (mid := (lz.take m).map (Value.int .u8)) (post := (lz.drop m).map (Value.int .u8)) (cap := lz.length) hrow (by rw [List.length_map, List.length_map, ← List.length_append, List.take_append_drop]; simp [K.size]) (by rw [List.length_take]; exact Nat.min_le_right _ _) (o := o) (k := fun s' => aops P Γ ops l s' k) e
      refine aops_sound hF hΓ l (i + 1) hl' (hY.mono (CxLe.refl _) g3.bx) g2 g1 ?_
      rintro a'' w'' ⟨s'', β'', q1, q2, q3⟩
      exact hQ a'' w'' ⟨s'', β'', q1, q2, (g3.mono fun d hd => hmem i o ho d hd).trans q3⟩
    have hs := aopI_sound (F := F) (n := n) (Q := Q) hF hΓ hY h e
    have next : ∀ a' w', After C s β (fun i => o.dst = some i ∨ ∃ j want, o.guard = some (j, want) ∧ gslot ops j = some i) (fun s' => aops P Γ ops l s' k) r a' w' → wpOpsIn F n P ops Q (List.range' (i + 1) l.length) a' w' := by
      rintro a' w' ⟨s', β', g1, g2, g3⟩
      have g3' : Ext (rdst ops) s s' β β' := g3.mono fun d hd => by
        rcases hd with hd | ⟨j, want, _, hj⟩
        · exact hmem i o ho d hd
        · unfold gslot at hj
          cases hoj : ops[j]? with
          | none => simp [hoj] at hj
          | some oj => simp only [hoj] at hj; exact hmem j oj hoj d hj
      refine aops_sound hF hΓ l (i + 1) hl' (hY.mono (CxLe.refl _) g3.bx) g2 g1 ?_
      rintro a'' w'' ⟨s'', β'', q1, q2, q3⟩
      exact hQ a'' w'' ⟨s'', β'', q1, q2, g3'.trans q3⟩
    simp only [List.length_cons, List.range'_succ, wpOpsIn, ho]
    unfold OpOK at hs
    split
    · rename_i hw
      rw [if_pos hw] at hs
      exact Oper.wpIn_mono next hs
    · rename_i hw
      rw [if_neg hw] at hs
      exact ⟨fun f _ => hF.fn f, next _ _ hs⟩

theorem region_sound (hF : FW F) {Γ : Env} (hΓ : Γ.Sound P) (hY : YOK P C β Γ.yl) {id : Nat} {ops : Array Oper} (h : Rel C s β a w) (e : aops P Γ ops ops.toList s k = some r)
    (hQ : ∀ a' w', After C s β (rdst ops) k r a' w' → Q .normal a' w') : (Code.region id ops false).wpIn F n P Q a w := by
  refine wpIn_region ?_
  have := aops_sound (n := n) (Q := Q) hF hΓ ops.toList 0 rfl hY h e hQ
  simpa [List.range_eq_range'] using this
end
end Go.Proofs.AM
end

section
namespace Go.Proofs.AM
open Go Go.RowKit

def iterM {X E : Type} (f : X → Option (X ⊕ E)) : Nat → X → Option E
  | 0, _ => none
  | n + 1, x => match f x with
    | some (.inl y) => iterM f n y
    | some (.inr e) => some e
    | none => none

theorem iterM_mono {X E : Type} {f : X → Option (X ⊕ E)} {e : E} : ∀ {n : Nat} {x : X}, iterM f n x = some e → ∀ m, n ≤ m → iterM f m x = some e
  | 0, _, h, _, _ => by simp [iterM] at h
  | n + 1, x, h, m, hm => by
    obtain ⟨m, rfl⟩ : ∃ k, m = k + 1 := ⟨m - 1, by omega⟩
    unfold iterM at h ⊢
    split at h
    · exact iterM_mono h m (by omega)
    · exact h
    · simp at h

open Classical in
noncomputable def loopM {X E : Type} (f : X → Option (X ⊕ E)) (x : X) : Option E :=
  if h : ∃ n, (iterM f n x).isSome = true then iterM f (Classical.choose h) x else none

theorem loopM_of {X E : Type} {f : X → Option (X ⊕ E)} {n : Nat} {x : X} {e : E} (h : iterM f n x = some e) : loopM f x = some e := by
  unfold loopM
  have hx : ∃ n, (iterM f n x).isSome = true := ⟨n, by rw [h]; rfl⟩
  rw [dif_pos hx]
  have hc := Classical.choose_spec hx
  obtain ⟨e', he⟩ := Option.isSome_iff_exists.1 hc
  have h1 := iterM_mono h (max n (Classical.choose hx)) (by omega)
  have h2 := iterM_mono he (max n (Classical.choose hx)) (by omega)
  rw [he, ← h2, h1]

theorem loopM_some {X E : Type} {f : X → Option (X ⊕ E)} {x : X} {e : E} (h : loopM f x = some e) : ∃ n, iterM f n x = some e := by
  unfold loopM at h
  split at h
  · exact ⟨_, h⟩
  · simp at h

theorem loopM_eq {X E : Type} (f : X → Option (X ⊕ E)) (x : X) : loopM f x = match f x with
    | some (.inl y) => loopM f y
    | some (.inr e) => some e
    | none => none := by
  cases hx : f x with
  | none =>
    cases h : loopM f x with
    | none => rfl
    | some e =>
      obtain ⟨n, hn⟩ := loopM_some h
      cases n with
      | zero => simp [iterM] at hn
      | succ n => simp [iterM, hx] at hn
  | some y =>
    cases y with
    | inr e => exact loopM_of (n := 1) (by simp [iterM, hx])
    | inl y =>
      show loopM f x = loopM f y
      cases h : loopM f y with
      | some e =>
        obtain ⟨n, hn⟩ := loopM_some h
        exact loopM_of (n := n + 1) (by simp [iterM, hx, hn])
      | none =>
        cases h' : loopM f x with
        | none => rfl
        | some e =>
          obtain ⟨n, hn⟩ := loopM_some h'
          cases n with
          | zero => simp [iterM] at hn
          | succ n =>
            simp only [iterM, hx] at hn
            rw [loopM_of hn] at h; simp at h

@[reducible] def KU : List K → Type
  | [] => Unit
  | k :: ks => k.den × KU ks

@[reducible] def KT : List K → Type
  | [] => Unit
  | k :: ks => match ks with
    | [] => k.den
    | k' :: r => k.den × KT (k' :: r)

def KT.up : {ks : List K} → KT ks → KU ks
  | [], _ => ()
  | [_], x => (x, ())
  | _ :: k' :: r, x => (x.1, KT.up (ks := k' :: r) x.2)

def KT.down : {ks : List K} → KU ks → KT ks
  | [], _ => ()
  | [_], x => x.1
  | _ :: k' :: r, x => (x.1, KT.down (ks := k' :: r) x.2)

theorem KT.up_down : ∀ {ks : List K} (x : KU ks), KT.up (KT.down x) = x
  | [], _ => rfl
  | [_], _ => rfl
  | _ :: k' :: r, x => by
    show (x.1, KT.up (KT.down (ks := k' :: r) x.2)) = x
    rw [KT.up_down (ks := k' :: r) x.2]

inductive SK where
  | d (agg : Bool) (k : K) (fr : Bool)
  | v (T : TypeId) (k : K) (fr : Bool)
  | np
  | m (l : Nat)
  | h (T T' : TypeId) (kh ki : K)
  | j

@[reducible] def SK.kind : SK → K
  | .d _ k _ => k
  | .v _ k _ => .sl k
  | .np => .unit
  | .m _ => .unit
  | .h _ _ kh ki => .sl (.pair kh (.sl ki))
  | .j => .unit

def SK.owns : SK → Bool
  | .v _ _ _ | .h _ _ _ _ => true
  | _ => false

def SK.rk : SK → K
  | .v _ k _ => k
  | .h _ _ kh ki => .pair kh (.sl ki)
  | _ => .unit

inductive Item where
  | slot (i : Nat) (sk : SK)
  | cell (l j : Nat) (sk : SK)
  | vec (l : Nat) (T : TypeId) (k : K) (fr : Bool)
  | map (l : Nat) (k v : Bool × K) (fr : Bool)
  | lp (l : Nat) (s : LS)
  | pbox (i : Nat) (T : TypeId) (n : Nat)
  | pcell (i j m : Nat) (sk : SK)
  | dvec (l : Nat) (T T' : TypeId) (kh ki : K)

@[reducible] def Item.kind : Item → K
  | .slot _ sk => sk.kind
  | .cell _ _ sk => sk.kind
  | .vec _ _ k _ => .sl k
  | .map _ k v _ => .sl (.pair k.2 v.2)
  | .lp _ _ => .unit
  | .pbox _ _ _ => .unit
  | .pcell _ _ _ sk => sk.kind
  | .dvec _ _ _ kh ki => .sl (.pair kh (.sl ki))

abbrev LA := List Item
def LA.kinds (la : LA) : List K := la.map Item.kind

def decV (h : Heap) (T : TypeId) (k : K) (fr : Bool) : AV → Option (List k.den × Option Nat)
  | .nilsl => some ([], none)
  | .vf l => match hat h l with
    | .vec T' k' xs f => if T' = T ∧ (!fr || f) = true then (if e : k' = k then some (e ▸ xs, some l) else none) else none
    | _ => none
  | _ => none

def decH (h : Heap) (T T' : TypeId) (kh ki : K) : AV → Option (List (kh.den × List ki.den) × Option Nat)
  | .nilsl => if (kh.flat && ki.flat) = true then some ([], none) else none
  | .hv nm _ _ => match hpool h nm with
    | some p => match hat h p with
      | .dvec T1 T1' kh1 ki1 xs none => if T1 = T ∧ T1' = T' then (if e : kh1 = kh then (if e' : ki1 = ki then some (e ▸ e' ▸ xs, some p) else none) else none) else none
      | _ => none
    | none => none
  | _ => none

def decS (h : Heap) : (sk : SK) → TV → Option (sk.kind.den × Option Nat)
  | .d agg k fr, t => match (match agg, t with
      | true, .agg cs => K.of h false k cs
      | false, .one a => K.of h false k [a]
      | true, .dat q x f => if e : q = k then some (e ▸ x, f || q.flat) else none
      | _, _ => none) with
    | some (x, f) => if (!fr || f) = true then some (x, none) else none
    | none => none
  | .v T k fr, t => match t with
    | .one a => decV h T k fr a
    | _ => none
  | .np, t => match t with
    | .one .nilp => some ((), none)
    | _ => none
  | .m l, t => match t with
    | .one (.mp l') => if l' = l then some ((), none) else none
    | _ => none
  | .h T T' kh ki, t => match t with
    | .one a => decH h T T' kh ki a
    | _ => none
  | .j, t => match t with
    | .one _ => some ((), none)
    | _ => none

def decI (s : AS) : (it : Item) → Option (it.kind.den × Option Nat)
  | .slot i sk => match s.tmps[i]? with
    | some t => decS s.heap sk t
    | none => none
  | .cell l j sk => match hat s.heap l with
    | .box _ cs => match cs[j]? with
      | some c => decS s.heap sk (.one c)
      | none => none
    | _ => none
  | .vec l T k fr => match hat s.heap l with
    | .vec T' k' xs f => if T' = T ∧ (!fr || f) = true then (if e : k' = k then some (e ▸ xs, none) else none) else none
    | _ => none
  | .map l k v fr => match hat s.heap l with
    | .map k' v' es f => if (!fr || f) = true then (if e : k' = k then (if e' : v' = v then some (e ▸ e' ▸ es, none) else none) else none) else none
    | _ => none
  | .lp l st => match hat s.heap l with
    | .lp st' => if st' = st then some ((), none) else none
    | _ => none
  | .pbox i T n => match s.tmps[i]? with
    | some (.one (.ptr l 0)) => match hat s.heap l with
      | .box T' cs => if T' = T ∧ cs.length = n then some ((), some l) else none
      | _ => none
    | _ => none
  | .pcell i j _ sk => match s.tmps[i]? with
    | some (.one (.ptr l 0)) => match hat s.heap l with
      | .box _ cs => match cs[j]? with
        | some c => decS s.heap sk (.one c)
        | none => none
      | _ => none
    | _ => none
  | .dvec l T T' kh ki => match hat s.heap l with
    | .dvec T1 T1' kh1 ki1 xs none => if T1 = T ∧ T1' = T' then (if e : kh1 = kh then (if e' : ki1 = ki then some (e ▸ e' ▸ xs, none) else none) else none) else none
    | _ => none

def Item.owns : Item → Bool
  | .slot _ sk | .cell _ _ sk | .pcell _ _ _ sk => sk.owns
  | .pbox _ _ _ => true
  | _ => false

def Item.rk : Item → K
  | .slot _ sk | .cell _ _ sk | .pcell _ _ _ sk => sk.rk
  | _ => .unit

def decL (s : AS) : (la : List Item) → Option (KU (LA.kinds la) × List (Option Nat))
  | [] => some ((), [])
  | it :: r => match decI s it, decL s r with
    | some (x, l), some (y, ls) => some ((x, y), if it.owns then l :: ls else ls)
    | _, _ => none

def encS (n : Nat) : (sk : SK) → sk.kind.den → TV
  | .d agg k fr, x => if (agg && k.wide) = true then .dat k x fr else (shapeTV agg (K.cells fr k x)).getD (.one .junk)
  | .v _ _ _, _ => .one (.vf n)
  | .np, _ => .one .nilp
  | .m l, _ => .one (.mp l)
  | .h _ _ kh _, x => .one (.hv n (List.length x) (kh.size + 1))
  | .j, _ => .one .junk

def encO (hd : Bool) : (sk : SK) → sk.kind.den → Heap
  | .d _ _ _, _ => []
  | .v T k fr, x => [(!hd, .vec T k x fr)]
  | .np, _ => []
  | .m _, _ => []
  | .h T T' kh ki, x => [(!hd, .dvec T T' kh ki x none)]
  | .j, _ => []

def encI (hd : Bool) : (it : Item) → it.kind.den → List TV × Heap → List TV × Heap
  | .slot i sk, x, (t, h) => (t.set i (encS h.length sk x), h ++ encO hd sk x)
  | .cell l j sk, x, (t, h) => match hat h l with
    | .box T cs => (t, h.set l (!hd, .box T (cs.set j (match encS h.length sk x with | .one a => a | _ => .junk))) ++ encO hd sk x)
    | _ => (t, h)
  | .vec l T k fr, x, (t, h) => (t, h.set l (!hd, .vec T k x fr))
  | .map l k v fr, x, (t, h) => (t, h.set l (!hd, .map k v x fr))
  | .lp l st, _, (t, h) => (t, h.set l (!hd, .lp st))
  | .pbox i T n, _, (t, h) => (t.set i (.one (.ptr h.length 0)), h ++ [(!hd, .box T (List.replicate n .junk))])
  | .pcell i j m sk, x, (t, h) => match t[i]?, hat h m with
    | some (.one (.ptr m' 0)), .box T cs => if m' = m then (t, h.set m (!hd, .box T (cs.set j (match encS h.length sk x with | .one a => a | _ => .junk))) ++ encO hd sk x) else (t, h ++ encO hd sk x)
    | _, _ => (t, h ++ encO hd sk x)
  | .dvec l T T' kh ki, x, (t, h) => (t, h.set l (!hd, .dvec T T' kh ki x none))

def encL (hd : Bool) : (la : List Item) → KU (LA.kinds la) → List TV × Heap → List TV × Heap
  | [], _, th => th
  | it :: r, x, th => encL hd r x.2 (encI hd it x.1 th)

def SK.ms : SK → List Nat
  | .m l => [l]
  | _ => []
def Item.ms : Item → List Nat
  | .slot _ sk | .cell _ _ sk | .pcell _ _ _ sk => sk.ms
  | _ => []
def msOf : List Item → List Nat
  | [] => []
  | it :: r => it.ms ++ msOf r

def boxesOf : List Item → List Nat
  | [] => []
  | .cell l _ _ :: r => l :: boxesOf r
  | _ :: r => boxesOf r

def vecsOf : List Item → List Nat
  | [] => []
  | .vec l _ _ _ :: r => l :: vecsOf r
  | .map l _ _ _ :: r => l :: vecsOf r
  | .lp l _ :: r => l :: vecsOf r
  | .dvec l _ _ _ _ :: r => l :: vecsOf r
  | .pcell _ _ m _ :: r => m :: vecsOf r
  | _ :: r => vecsOf r

def wholeOf : List Item → List Nat
  | [] => []
  | .vec l _ _ _ :: r => l :: wholeOf r
  | .map l _ _ _ :: r => l :: wholeOf r
  | .lp l _ :: r => l :: wholeOf r
  | .dvec l _ _ _ _ :: r => l :: wholeOf r
  | _ :: r => wholeOf r

def pcsOf : List Item → List Nat
  | [] => []
  | .pcell _ _ m _ :: r => m :: pcsOf r
  | _ :: r => pcsOf r

theorem vecs_cases {l : Nat} : ∀ {la : List Item}, l ∈ vecsOf la → l ∈ wholeOf la ∨ l ∈ pcsOf la
  | it :: r, h => by
    cases it <;> simp only [vecsOf, wholeOf, pcsOf, List.mem_cons] at h ⊢ <;>
      first
        | exact vecs_cases h
        | (rcases h with h | h
           · first | exact .inl (.inl h) | exact .inr (.inl h)
           · rcases vecs_cases h with h | h
             · first | exact .inl (.inr h) | exact .inl h
             · first | exact .inr (.inr h) | exact .inr h)

def junkAll (D : List Nat) (t : List TV) : List TV := D.foldl (fun t i => t.set i (.one .junk)) t

def AObj.clear : AObj → AObj
  | .box T cs => .box T (cs.map fun _ => .junk)
  | .vec _ _ _ _ => .dead
  | .map _ _ _ _ => .dead
  | .lp _ => .dead
  | .dvec _ _ _ _ _ _ => .dead
  | o => o

def AObj.whole : AObj → Bool
  | .vec _ _ _ _ => true
  | .map _ _ _ _ => true
  | .lp _ => true
  | .dvec _ _ _ _ _ _ => true
  | _ => false

def AObj.isMark : AObj → Bool
  | .mark => true
  | _ => false

def baseObj (hd : Bool) (ks bs : List Nat) (o : Bool × AObj) (l : Nat) : Bool × AObj :=
  if ks.contains l then (!hd, .dead) else if bs.contains l then (!hd, o.2.clear) else (if hd then o.1 && o.2.isMark else o.1, o.2)

def baseHeapFrom (hd : Bool) (ks bs : List Nat) : Heap → Nat → Heap
  | [], _ => []
  | o :: h, l => baseObj hd ks bs o l :: baseHeapFrom hd ks bs h (l + 1)

def enc (hd : Bool) (s0 : AS) (D : List Nat) (ks : List Nat) (la : List Item) (x : KT (LA.kinds la)) : AS :=
  let th := encL hd la (KT.up x) (junkAll D s0.tmps, baseHeapFrom hd ks (boxesOf la ++ vecsOf la) s0.heap 0)
  { s0 with tmps := th.1, heap := th.2 }

def slotsOf : List Item → List Nat
  | [] => []
  | .slot i _ :: r => i :: slotsOf r
  | .pbox i _ _ :: r => i :: slotsOf r
  | _ :: r => slotsOf r

def nodupO : List (Option Nat) → Bool
  | [] => true
  | none :: r => nodupO r
  | some l :: r => !r.contains (some l) && nodupO r

def okL (h0 h : Heap) (D ks : List Nat) (la : List Item) (ls : List (Option Nat)) : Bool :=
  (slotsOf la).all D.contains &&
  (boxesOf la).all (fun l => decide (l < h0.length) && match hat h0 l, hat h l with
    | .box T cs, .box T' cs' => T == T' && cs.length == cs'.length
    | _, _ => false) &&
  (wholeOf la).all (fun l => decide (l < h0.length) && (hat h0 l).whole) && (pcsOf la).all (fun l => decide (h0.length ≤ l)) &&
  ls.all (fun | none => true | some l => ks.contains l || decide (h0.length ≤ l)) &&
  nodupO ls && (msOf la).all (fun l => decide (l < h0.length)) && ks.all (fun l => !(hat h0 l).isMark && !(boxesOf la ++ vecsOf la).contains l)

def unchFrom (skip : List Nat) : Heap → Heap → Nat → Bool
  | [], _, _ => true
  | _ :: _, [], _ => false
  | o :: h0, p :: h, l => (skip.contains l || !p.1 || (o.1 && o.2.isMark)) && unchFrom skip h0 h (l + 1)
end Go.Proofs.AM
end
