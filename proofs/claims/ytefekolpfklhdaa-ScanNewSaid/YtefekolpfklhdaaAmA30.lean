/- A row's arguments, as data. -/
import Derived.Test.YtefekolpfklhdaaAmA29
import Derived.ChangeArms
import Derived.WideShapes
import Derived.Carry
import Derived.ChangeShapes
import Derived.OpenShut
import Derived.SizedLaws
set_option maxRecDepth 2000
set_option linter.unusedVariables false
set_option linter.unusedSimpArgs false
namespace Go.Proofs.AM
open Go Go.RowKit

/-- What holds of every datum that comes in: numbers fit, lists and texts are no longer than may be. -/
def K.wf : (k : K) → k.den → Prop
  | .int k, n => (Lit.int k n).wf = true
  | .str, s => ByteArray.size s ≤ maxLen
  | .pair a b, x => a.wf x.1 ∧ b.wf x.2
  | .sl k, xs => List.length xs ≤ maxLen ∧ ∀ x ∈ (show List k.den from xs), k.wf x
  | .rp k, x => k.wf x
  | _, _ => True

def PWf : (ps : List (Bool × K)) → PDen ps → Prop
  | [], _ => True
  | p :: ps, x => p.2.wf x.1 ∧ PWf ps x.2

/-! ### cells lie as kinds say -/
def layF (P : Program) (q : TypeId → Option K) (g : TypeId → Bool) (total : Nat) : List Field → Nat → Bool
  | [], off => off == total
  | x :: r, off => x.offset == off && (match q x.type with
    | some k => P.cellsOf x.type == k.size
    | none => false) && g x.type && layF P q g total r (off + P.cellsOf x.type)

def lay (P : Program) : Nat → TypeId → Bool
  | 0, _ => false
  | n + 1, t => match P.underlying t with
    | some (.int _) => true
    | some .bool => true
    | some .string => true
    | some (.slice e) => (match kindOf P n e with
      | some k => P.cellsOf e == k.size && decide (0 < k.size)
      | none => false) && lay P n e
    | some (.struct fs) => layF P (kindOf P n) (lay P n) (P.cellsOf t) fs.toList 0
    | _ => false

section
variable {H : Type} {enc : TypeId × Value → H} {P : Program} {w : World} {base : Nat} {spare : Nat → Bool} {held : Bool}

theorem fields_open {q : TypeId → Option K} {g : TypeId → Bool} {total : Nat} {cs : List Value} (htot : cs.length = total) {N : Nat → Prop}
    (ih : ∀ t k cells, q t = some k → g t = true → (∃ n x, DataW.trod enc P w base spare held n t cells = some x) → ∃ y, k.rd w N y cells ∧ k.wf y) :
    ∀ (l : List Field) (off : Nat) (k : K), kindFields q l = some k → layF P q g total l off = true → off ≤ total →
      (∀ f ∈ l, ∃ n x, DataW.trod enc P w base spare held n f.type ((cs.drop f.offset).take (P.cellsOf f.type)) = some x) → ∃ y, k.rd w N y (cs.drop off) ∧ k.wf y
  | [], off, k, hk, hl, _, _ => by
    simp only [kindFields, Option.some.injEq] at hk
    subst hk
    simp only [layF, beq_iff_eq] at hl
    exact ⟨(), by show cs.drop off = []; rw [List.drop_eq_nil_iff]; omega, trivial⟩
  | [x], off, k, hk, hl, ho, hx => by
    simp only [kindFields] at hk
    simp only [layF, hk, Bool.and_eq_true, beq_iff_eq] at hl
    obtain ⟨⟨⟨h1, h2⟩, h3⟩, h4⟩ := hl
    obtain ⟨n, y, hy⟩ := hx x (by simp)
    have : (cs.drop x.offset).take (P.cellsOf x.type) = cs.drop off := by
      rw [h1, List.take_of_length_le]; simp; omega
    rw [this] at hy
    exact ih x.type k _ hk h3 ⟨n, y, hy⟩
  | x :: y :: r, off, k, hk, hl, ho, hx => by
    unfold kindFields at hk
    split at hk
    rotate_left
    · simp at hk
    rename_i a b ha hb
    simp only [Option.some.injEq] at hk
    subst hk
    unfold layF at hl
    simp only [ha, Bool.and_eq_true, beq_iff_eq] at hl
    obtain ⟨⟨⟨h1, h2⟩, h3⟩, h4⟩ := hl
    obtain ⟨n, z, hz⟩ := hx x (by simp)
    obtain ⟨y1, g1, g2⟩ := ih x.type a _ ha h3 ⟨n, z, hz⟩
    have hlen := K.rd_len w N a y1 _ g1
    have hle : off + P.cellsOf x.type ≤ total := by
      rw [List.length_take, List.length_drop, h1, ← h2] at hlen
      omega
    obtain ⟨y2, g3, g4⟩ := fields_open htot ih (y :: r) (off + P.cellsOf x.type) b hb h4 hle (fun f hf => hx f (by simp [hf]))
    refine ⟨(y1, y2), ⟨_, _, ?_, g1, g3⟩, g2, g4⟩
    rw [h1, ← List.drop_drop, List.take_append_drop]

theorem cells_at {a : Addr} {n : Nat} {cells : List Value} (h : w.cells? base a n = some cells) : cells.length = n ∧ ∀ i v, cells[i]? = some v → w.cell? (a.add i) = some v := by
  unfold World.cells? at h
  split at h
  · have hl := mapM_some_length h
    refine ⟨by simpa using hl, fun i v hv => ?_⟩
    have hi := (List.getElem?_eq_some_iff.1 hv).1
    have := mapM_some_get h i i (by rw [List.getElem?_range (by simpa [hl] using hi)])
    rw [this]; exact hv
  · simp at h

theorem trod_open : ∀ (n : Nat) (t : TypeId) (k : K), kindOf P n t = some k → lay P n t = true → ∀ (fuel : Nat) (cs : List Value) (x : DataW H × List MemPlace), DataW.trod enc P w base spare held fuel t cs = some x →
    ∃ y, k.rd w (fun b => b < w.heap.size) y cs ∧ k.wf y := by
  intro n
  induction n with
  | zero => intro t k hk; simp [kindOf] at hk
  | succ n ih =>
    intro t k hk hl fuel cs x h
    unfold kindOf at hk
    unfold lay at hl
    cases hu : P.underlying t with
    | none => simp [hu] at hk
    | some d =>
      simp only [hu] at hk hl
      cases d with
      | int q =>
        simp only [Option.some.injEq] at hk; subst hk
        obtain ⟨m, rfl, _, hw⟩ := DataW.trod_int hu h
        exact ⟨m, rfl, hw⟩
      | bool =>
        simp only [Option.some.injEq] at hk; subst hk
        obtain ⟨b, rfl, _⟩ := DataW.trod_bool hu h
        exact ⟨b, rfl, trivial⟩
      | string =>
        simp only [Option.some.injEq] at hk; subst hk
        obtain ⟨s, rfl, _, hs⟩ := DataW.trod_string hu h
        exact ⟨s, rfl, hs⟩
      | slice e =>
        dsimp only at hk hl
        split at hk
        rotate_left
        · simp at hk
        rename_i q hq
        simp only [Option.some.injEq] at hk; subst hk
        simp only [hq, Bool.and_eq_true, beq_iff_eq, decide_eq_true_eq] at hl
        obtain ⟨⟨hsz, hpos⟩, hle⟩ := hl
        rcases DataW.trod_slice hu h with ⟨rfl, _⟩ | ⟨a, len, cap, elems, rest, m, _, rfl, _, hb, hlc, hm, hlen, hel, _, _⟩
        · exact ⟨[], ⟨none, 0, rfl, Nat.le_refl _, .inl rfl⟩, Nat.zero_le _, by simp⟩
        · have each : ∀ i, i < len → ∃ cells y, w.cells? base (a.add (i * P.cellsOf e)) (P.cellsOf e) = some cells ∧ q.rd w (fun b => b < w.heap.size) y cells ∧ q.wf y := by
            intro i hi
            have hi' := hel i hi
            obtain ⟨z, hz⟩ : ∃ z, elems[i]? = some z := ⟨_, List.getElem?_eq_getElem (by omega)⟩
            rw [hz, Option.bind_eq_some_iff] at hi'
            obtain ⟨cells, h1, h2⟩ := hi'
            obtain ⟨y, h3, h4⟩ := ih e q hq hle m cells z h2
            exact ⟨cells, y, h1, h3, h4⟩
          have build : ∀ j, j ≤ len → ∃ (ys : List q.den) (es : List Value), ys.length = j ∧ es.length = j * P.cellsOf e ∧ rows (q.rd w (fun b => b < w.heap.size)) ys es ∧ (∀ y ∈ ys, q.wf y) ∧ ∀ i v, es[i]? = some v → w.cell? (a.add i) = some v := by
            intro j
            induction j with
            | zero => exact fun _ => ⟨[], [], rfl, by simp, rfl, by simp, by simp⟩
            | succ j ihj =>
              intro hj
              obtain ⟨ys, es, h1, h2, h3, h4, h5⟩ := ihj (by omega)
              obtain ⟨cells, y, g1, g2, g3⟩ := each j (by omega)
              obtain ⟨g4, g5⟩ := cells_at g1
              refine ⟨ys ++ [y], es ++ cells, by simp [h1], by rw [List.length_append, h2, g4, Nat.add_mul, Nat.one_mul], h3.app ⟨cells, [], by simp, g2, rfl⟩, ?_, fun i v hv => ?_⟩
              · intro z hz
                rcases List.mem_append.1 hz with hz | hz
                · exact h4 z hz
                · simp at hz; subst hz; exact g3
              · by_cases hi : i < es.length
                · rw [List.getElem?_append_left hi] at hv; exact h5 i v hv
                · rw [List.getElem?_append_right (by omega)] at hv
                  have := g5 _ v hv
                  rw [h2] at this
                  have hi : j * P.cellsOf e ≤ i := by omega
                  have e2 : (a.add (j * P.cellsOf e)).add (i - j * P.cellsOf e) = a.add i ∨ j * P.cellsOf e = i := by
                    by_cases hh : i = j * P.cellsOf e
                    · exact .inr hh.symm
                    · left
                      unfold Addr.add
                      have hd : i - j * P.cellsOf e ≠ 0 := by omega
                      have hi0 : i ≠ 0 := by omega
                      rw [if_neg hd, if_neg hi0]
                      split
                      · rename_i hz; rw [hz] at hi ⊢; simp
                      · simp only [Addr.mk.injEq, true_and, and_true]; omega
                  rcases e2 with e2 | e2
                  · rw [← e2]; exact this
                  · rw [← e2, Nat.sub_self] at this
                    rw [← e2]
                    have e3 : ∀ b : Addr, b.add 0 = b := fun b => by simp [Addr.add]
                    rw [e3] at this; exact this
          obtain ⟨ys, es, h1, h2, h3, h4, h5⟩ := build len (Nat.le_refl _)
          refine ⟨ys, ⟨some a, cap, by show [Value.slice (some a) len cap] = [Value.slice (some a) ys.length cap]; rw [h1], by show ys.length ≤ cap; rw [h1]; exact hlc, ?_⟩, by show List.length ys ≤ maxLen; omega, h4⟩
          by_cases h0 : ys.length = 0
          · exact .inl h0
          · right
            have hne : 0 < es.length := by rw [h2, hsz]; exact Nat.mul_pos (by omega) hpos
            obtain ⟨v, hv⟩ : ∃ v, es[0]? = some v := ⟨_, List.getElem?_eq_getElem hne⟩
            have hc := h5 0 v hv
            have ha0 : a.add 0 = a := by simp [Addr.add]
            rw [ha0] at hc
            have hsp : a.spot = none ∧ a.block < w.heap.size := by
              unfold World.cell? at hc
              split at hc
              · rename_i hb2
                split at hc
                · simp at hc
                · rename_i hs
                  exact ⟨by simpa using hs, (Array.getElem?_eq_some_iff.1 hb2).1⟩
              · simp at hc
            obtain ⟨b, off, sp⟩ := a
            obtain rfl : sp = none := hsp.1
            refine ⟨b, off, es, rfl, hsp.2, fun i v hv => ?_, h3⟩
            have := h5 i v hv
            unfold Addr.add at this
            split at this
            · rename_i hi; subst hi; exact this
            · exact this
      | struct fs =>
        dsimp only at hk hl
        obtain ⟨xs, m, _, _, hlen, hxl, hx⟩ := DataW.trod_struct hu h
        have ihf : ∀ t k cells, kindOf P n t = some k → lay P n t = true → (∃ n x, DataW.trod enc P w base spare held n t cells = some x) → ∃ y, k.rd w (fun b => b < w.heap.size) y cells ∧ k.wf y :=
          fun t k cells h1 h2 ⟨n', x', h3⟩ => ih t k h1 h2 n' cells x' h3
        have hf : ∀ f ∈ fs.toList, ∃ n x, DataW.trod enc P w base spare held n f.type ((cs.drop f.offset).take (P.cellsOf f.type)) = some x := by
          intro f hf
          obtain ⟨i, hi⟩ := List.mem_iff_getElem?.1 hf
          have hi' : fs[i]? = some f := by simpa using hi
          have := hx i f hi'
          obtain ⟨z, hz⟩ : ∃ z, xs[i]? = some z := ⟨_, List.getElem?_eq_getElem (by rw [hxl]; exact (Array.getElem?_eq_some_iff.1 hi').1)⟩
          exact ⟨m, z, this.trans hz⟩
        split at hk
        · rename_i x1 hfs
          split at hk
          rotate_left
          · simp at hk
          rename_i q hq
          simp only [Option.some.injEq] at hk; subst hk
          rw [hfs] at hl hf
          obtain ⟨y, g1, g2⟩ := fields_open hlen ihf [x1] 0 q (by simp [kindFields, hq]) hl (Nat.zero_le _) hf
          exact ⟨(y, ()), ⟨cs, [], by simp, by simpa using g1, rfl⟩, g2, trivial⟩
        · obtain ⟨y, g1, g2⟩ := fields_open hlen ihf fs.toList 0 k hk hl (Nat.zero_le _) hf
          exact ⟨y, by simpa using g1, g2⟩
      | _ => simp at hk
end

/-! ### arguments -/
def psOk (P : Program) : List TypeId → List (Bool × K) → Bool
  | [], [] => true
  | t :: ts, p :: ps => decide (kindOf P 30 t = some p.2) && (isAggT P t == p.1) && lay P 30 t && psOk P ts ps
  | _, _ => false

theorem val_open {H : Type} {enc : TypeId × Value → H} {P : Program} {w w0 : World} {base base' : Nat} {spare : Nat → Bool} {held : Bool} {t : TypeId} {v : Value} {d : DataW H} {q : List MemPlace} {p : Bool × K} (hk : kindOf P 30 t = some p.2) (hg : isAggT P t = p.1) (hl : lay P 30 t = true)
    (hok : Value.okWide P w0 .any base' t v) (h : DataW.Trod enc P w base spare held t v d q) : ∃ y, valR w (fun b => b < w.heap.size) p y v ∧ p.2.wf y := by
  obtain ⟨fuel, hf⟩ := h
  obtain ⟨y, h1, h2⟩ := trod_open 30 t p.2 hk hl fuel _ _ hf
  refine ⟨y, ?_, h2⟩
  obtain ⟨pa, pk⟩ := p
  cases pa with
  | true =>
    have : ∃ cs, v = .agg cs := by
      unfold isAggT at hg
      unfold Value.okWide at hok
      split at hg
      · rename_i hu; rw [hu] at hok; obtain ⟨cs, e, _⟩ := hok; exact ⟨cs, e⟩
      · rename_i hu; rw [hu] at hok; obtain ⟨cs, e, _⟩ := hok; exact ⟨cs, e⟩
      · simp at hg
    obtain ⟨cs, rfl⟩ := this
    exact ⟨cs.toList, by simp, by simpa [Value.cells] using h1⟩
  | false =>
    have : v.cells = #[v] := by
      unfold kindOf at hk
      cases hu : P.underlying t with
      | none => simp [hu] at hk
      | some dd =>
        simp only [hu] at hk
        cases dd with
        | int q => obtain ⟨m, rfl⟩ := WideShapes.okWide_int hu hok; rfl
        | bool => obtain ⟨m, rfl⟩ := WideShapes.okWide_bool hu hok; rfl
        | string => obtain ⟨m, rfl⟩ := WideShapes.okWide_string hu hok; rfl
        | slice e => obtain ⟨a, b, c, rfl⟩ := WideShapes.okWide_slice hu hok; rfl
        | struct fs => simp [isAggT, hu] at hg
        | _ => simp at hk
    rw [this] at h1
    exact h1

theorem args_open {H : Type} {enc : TypeId × Value → H} {P : Program} {w w0 : World} {base base' : Nat} {spare : Nat → Bool} {held : Bool} : ∀ {ts : List TypeId} {ps : List (Bool × K)} {vs : List Value} {ds : List (DataW H)} {q : List MemPlace}, psOk P ts ps = true →
    (∀ (j : Nat) t v, ts[j]? = some t → vs[j]? = some v → Value.okWide P w0 .any base' t v) → DataW.TrodAll enc P w base spare held ts vs ds q → ∃ x, argsR w (fun b => b < w.heap.size) ps x vs ∧ PWf ps x
  | [], [], vs, ds, q, _, _, h => by
    obtain ⟨rfl, _, _⟩ := ChangeShapes.trodAll_nil h
    exact ⟨(), rfl, trivial⟩
  | t :: ts, p :: ps, vs, ds, q, hp, hv, h => by
    obtain ⟨v, vs', d, ds', p1, q1, rfl, rfl, rfl, h1, h2⟩ := ChangeShapes.trodAll_cons h
    simp only [psOk, Bool.and_eq_true, decide_eq_true_eq, beq_iff_eq] at hp
    obtain ⟨⟨⟨g1, g2⟩, g3⟩, g4⟩ := hp
    obtain ⟨y, k1, k2⟩ := val_open g1 g2 g3 (hv 0 t v rfl rfl) h1
    obtain ⟨x, k3, k4⟩ := args_open g4 (fun j t' v' e1 e2 => hv (j + 1) t' v' (by simpa using e1) (by simpa using e2)) h2
    exact ⟨(y, x), ⟨v, vs', rfl, k1, k3⟩, k2, k4⟩
  | [], _ :: _, _, _, _, hp, _, _ => by simp [psOk] at hp
  | _ :: _, [], _, _, _, hp, _, _ => by simp [psOk] at hp

theorem Grew.below {w w' : World} (h : Grew w w') : Below w.heap.size w w' := ⟨h.os, h.tape, h.output, h.size, h.block⟩

/-- A law's call. -/
theorem law_call {P : Program} {f : FuncId} {ps : List (Bool × K)} {share : Bool} {m : PDen ps → Option (PDen [(false, .bool)])} (c : CS.Sound P f ⟨ps, [(false, .bool)], share, m⟩) (hm : ∀ x, PWf ps x → m x = some (true, ()))
    {H : Type} {enc : TypeId × Value → H} {w w0 : World} {base base' : Nat} {spare : Nat → Bool} {held : Bool} {ts : List TypeId} {args : Array Value} {ds : List (DataW H)} {q : List MemPlace} (hps : psOk P ts ps = true)
    (hv : ∀ (j : Nat) t v, ts[j]? = some t → args.toList[j]? = some v → Value.okWide P w0 .any base' t v) (h : DataW.TrodAll enc P w base spare held ts args.toList ds q) :
    Calls P f args w fun e w' => e = .returned (.bool true) ∧ Below w.heap.size w w' := by
  obtain ⟨x, h1, h2⟩ := args_open hps hv h
  have := c.2 x _ (hm x h2) w (fun b => b < w.heap.size) args.toList (fun _ hb => hb) h1
  refine (by simpa using this : Calls P f args w _).mono ?_
  rintro e w' ⟨v, rfl, hg, hr⟩
  refine ⟨?_, hg.below⟩
  have hr : [v] = [Value.bool true] := hr
  simp only [List.cons.injEq, and_true] at hr
  rw [hr]

/-- Arguments read as they did. -/
theorem args_stay {H : Type} {enc : TypeId × Value → H} {P : Program} (hl : laidOutB P = true) {W W' : World} (hb : Below W.heap.size W W') : ∀ {ts : List TypeId} {vs : List Value} {ds : List (DataW H)} {q : List MemPlace}, (ts.all fun t => P.readableRec t && decide (t < P.types.size)) = true →
    DataW.TrodAll enc P W 0 (fun _ => true) true ts vs ds q → DataW.TrodAll enc P W' 0 (fun b => decide (b < W.heap.size)) true ts vs ds q
  | [], vs, ds, q, _, h => by
    obtain ⟨rfl, rfl, rfl⟩ := ChangeShapes.trodAll_nil h
    exact ChangeShapes.trodAll_mk0
  | t :: ts, vs, ds, q, hr, h => by
    have hlt := h.lt
    obtain ⟨v, vs', d, ds', p1, q1, rfl, rfl, rfl, h1, h2⟩ := ChangeShapes.trodAll_cons h
    simp only [List.all_cons, Bool.and_eq_true, decide_eq_true_eq] at hr
    exact trodAll_cons_mk (Below.trod hl hr.1.1 hr.1.2 h1 hb (fun x hx => hlt x (by simp [hx]))) (args_stay hl hb hr.2 h2)
end Go.Proofs.AM
