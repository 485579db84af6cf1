/- A machine that reckons what a function of the program comes to, and that what it reckons is what the program does. No condition. -/
import Derived.Test.YtjleeabhpfmhaaaAmd
import Derived.SizedLaws
set_option maxRecDepth 2000
set_option linter.unusedVariables false
set_option linter.unusedSimpArgs false
section
namespace Go.Proofs.AM
open Go Go.RowKit

def K.wd : K → Nat
  | .int q => q.bits / 8
  | .pair a b => a.wd + b.wd
  | .str => 16
  | .sl _ => 24
  | _ => 1

def K.sz : (k : K) → k.den → Prop
  | .pair a b, x => a.sz x.1 ∧ b.sz x.2
  | .sl k, xs => List.length xs * k.wd ≤ 140737488351232 ∧ ∀ x ∈ (show List k.den from xs), k.sz x
  | .rp k, x => k.sz x
  | _, _ => True

def PSz : (ps : List (Bool × K)) → PDen ps → Prop
  | [], _ => True
  | p :: ps, x => p.2.sz x.1 ∧ PSz ps x.2

def roomy (P : Program) : Nat → TypeId → Bool
  | 0, _ => false
  | n + 1, t => match P.underlying t with
    | some (.slice e) => (match kindOf P n e with | some k => decide (k.wd ≤ P.bytesOf e) | none => false) && roomy P n e
    | some (.struct fs) => fs.toList.all fun f => roomy P n f.type
    | some (.array _ _) => false
    | _ => true

theorem weightsAll_mem {H : Type} {P : Program} {e : TypeId} : ∀ {ds : List (DataW H)} {d : DataW H}, d ∈ ds → ∀ n ∈ d.weights P e, n ∈ DataW.weightsAll P e ds
  | x :: ds, d, hd, n, hn => by
    rcases List.mem_cons.1 hd with rfl | hd
    · simp only [DataW.weightsAll, List.mem_append]; exact .inl hn
    · simp only [DataW.weightsAll, List.mem_append]; exact .inr (weightsAll_mem hd n hn)

section
variable {H : Type} {enc : TypeId × Value → H} {P : Program} {w : World} {base : Nat} {spare : Nat → Bool} {held : Bool}

theorem fields_openS {q : TypeId → Option K} {g g2 : TypeId → Bool} {R : Field → DataW H → Prop} {total : Nat} {cs : List Value} (htot : cs.length = total) {N : Nat → Prop}
    (ih : ∀ (f : Field) k cells, q f.type = some k → g f.type = true → g2 f.type = true → (∃ n x, DataW.trod enc P w base spare held n f.type cells = some x ∧ R f x.1) → ∃ y, k.rd w N y cells ∧ k.wf y ∧ k.sz y) :
    ∀ (l : List Field) (off : Nat) (k : K), kindFields q l = some k → layF P q g total l off = true → off ≤ total → (∀ f ∈ l, g2 f.type = true) →
      (∀ f ∈ l, ∃ n x, DataW.trod enc P w base spare held n f.type ((cs.drop f.offset).take (P.cellsOf f.type)) = some x ∧ R f x.1) → ∃ y, k.rd w N y (cs.drop off) ∧ k.wf y ∧ k.sz y
  | [], off, k, hk, hl, _, _, _ => by
    simp only [kindFields, Option.some.injEq] at hk
    subst hk
    simp only [layF, beq_iff_eq] at hl
    exact ⟨(), by show cs.drop off = []; rw [List.drop_eq_nil_iff]; omega, trivial, trivial⟩
  | [x], off, k, hk, hl, ho, hg, hx => by
    simp only [kindFields] at hk
    simp only [layF, hk, Bool.and_eq_true, beq_iff_eq] at hl
    obtain ⟨⟨⟨h1, h2⟩, h3⟩, h4⟩ := hl
    obtain ⟨n, y, hy, hR⟩ := hx x (by simp)
    have : (cs.drop x.offset).take (P.cellsOf x.type) = cs.drop off := by
      rw [h1, List.take_of_length_le]; simp; omega
    rw [this] at hy
    exact ih x k _ hk h3 (hg x (by simp)) ⟨n, y, hy, hR⟩
  | x :: y :: r, off, k, hk, hl, ho, hg, hx => by
    unfold kindFields at hk
    split at hk
    rotate_left
    · simp at hk
    rename_i a b ha hb
    simp only [Option.some.injEq] at hk
    subst hk
    unfold layF at hl
    simp only [ha, Bool.and_eq_true, beq_iff_eq] at hl
    obtain ⟨⟨⟨h1, h2⟩, h3⟩, h4⟩ := hl
    obtain ⟨n, z, hz, hR⟩ := hx x (by simp)
    obtain ⟨y1, g1, g2, g2'⟩ := ih x a _ ha h3 (hg x (by simp)) ⟨n, z, hz, hR⟩
    have hlen := K.rd_len w N a y1 _ g1
    have hle : off + P.cellsOf x.type ≤ total := by
      rw [List.length_take, List.length_drop, h1, ← h2] at hlen
      omega
    obtain ⟨y2, g3, g4, g4'⟩ := fields_openS htot ih (y :: r) (off + P.cellsOf x.type) b hb h4 hle (fun f hf => hg f (by simp [hf])) (fun f hf => hx f (by simp [hf]))
    refine ⟨(y1, y2), ⟨_, _, ?_, g1, g3⟩, ⟨g2, g4⟩, g2', g4'⟩
    rw [h1, ← List.drop_drop, List.take_append_drop]

theorem trod_openS : ∀ (n : Nat) (t : TypeId) (k : K), kindOf P n t = some k → lay P n t = true → roomy P n t = true → ∀ (fuel : Nat) (cs : List Value) (x : DataW H × List MemPlace), DataW.trod enc P w base spare held fuel t cs = some x → (∀ n ∈ x.1.weights P t, n ≤ reachBytes) →
    ∃ y, k.rd w (fun b => b < w.heap.size) y cs ∧ k.wf y ∧ k.sz y := by
  intro n
  induction n with
  | zero => intro t k hk; simp [kindOf] at hk
  | succ n ih =>
    intro t k hk hl hro fuel cs x h hwt
    unfold kindOf at hk
    unfold lay at hl
    unfold roomy at hro
    cases hu : P.underlying t with
    | none => simp [hu] at hk
    | some d =>
      simp only [hu] at hk hl hro
      cases d with
      | int q =>
        simp only [Option.some.injEq] at hk; subst hk
        obtain ⟨m, rfl, _, hw⟩ := DataW.trod_int hu h
        exact ⟨m, rfl, hw, trivial⟩
      | bool =>
        simp only [Option.some.injEq] at hk; subst hk
        obtain ⟨b, rfl, _⟩ := DataW.trod_bool hu h
        exact ⟨b, rfl, trivial, trivial⟩
      | string =>
        simp only [Option.some.injEq] at hk; subst hk
        obtain ⟨s, rfl, _, hs⟩ := DataW.trod_string hu h
        exact ⟨s, rfl, hs, trivial⟩
      | slice e =>
        dsimp only at hk hl hro
        split at hk
        rotate_left
        · simp at hk
        rename_i q hq
        simp only [Option.some.injEq] at hk; subst hk
        simp only [hq, Bool.and_eq_true, beq_iff_eq, decide_eq_true_eq] at hl hro
        obtain ⟨⟨hsz, hpos⟩, hle⟩ := hl
        rcases DataW.trod_slice hu h with ⟨rfl, _⟩ | ⟨a, len, cap, elems, rest, m, _, rfl, hxe, hb, hlc, hm, hlen, hel, _, _⟩
        · exact ⟨[], ⟨none, 0, rfl, Nat.le_refl _, .inl rfl⟩, ⟨Nat.zero_le _, by simp⟩, by show List.length ([] : List q.den) * q.wd ≤ 140737488351232; simp, by simp⟩
        · subst hxe
          have hw1 : (elems.length + rest.length) * P.bytesOf e ≤ reachBytes := hwt _ (by simp [DataW.weights, hu])
          have hlen2 : len * q.wd ≤ 140737488351232 := by
            have h1 : len * q.wd ≤ (elems.length + rest.length) * P.bytesOf e := Nat.mul_le_mul (by omega) hro.1
            have h2 : reachBytes = 140737488351232 := by decide
            omega
          have each : ∀ i, i < len → ∃ cells y, w.cells? base (a.add (i * P.cellsOf e)) (P.cellsOf e) = some cells ∧ q.rd w (fun b => b < w.heap.size) y cells ∧ q.wf y ∧ q.sz y := by
            intro i hi
            have hi' := hel i hi
            obtain ⟨z, hz⟩ : ∃ z, elems[i]? = some z := ⟨_, List.getElem?_eq_getElem (by omega)⟩
            rw [hz, Option.bind_eq_some_iff] at hi'
            obtain ⟨cells, h1, h2⟩ := hi'
            obtain ⟨y, h3, h4⟩ := ih e q hq hle hro.2 m cells z h2 (fun n hn => hwt n (by
              have hzm : z.1 ∈ elems.map (·.1) := List.mem_map_of_mem (List.mem_of_getElem? hz)
              have := weightsAll_mem hzm n hn
              simp only [DataW.weights, hu, List.mem_cons, List.mem_append]
              exact .inr (.inl this)))
            exact ⟨cells, y, h1, h3, h4⟩
          have build : ∀ j, j ≤ len → ∃ (ys : List q.den) (es : List Value), ys.length = j ∧ es.length = j * P.cellsOf e ∧ rows (q.rd w (fun b => b < w.heap.size)) ys es ∧ (∀ y ∈ ys, q.wf y ∧ q.sz y) ∧ ∀ i v, es[i]? = some v → w.cell? (a.add i) = some v := by
            intro j
            induction j with
            | zero => exact fun _ => ⟨[], [], rfl, by simp, rfl, by simp, by simp⟩
            | succ j ihj =>
              intro hj
              obtain ⟨ys, es, h1, h2, h3, h4, h5⟩ := ihj (by omega)
              obtain ⟨cells, y, g1, g2, g3⟩ := each j (by omega)
              obtain ⟨g4, g5⟩ := cells_at g1
              refine ⟨ys ++ [y], es ++ cells, by simp [h1], by rw [List.length_append, h2, g4, Nat.add_mul, Nat.one_mul], h3.app ⟨cells, [], by simp, g2, rfl⟩, ?_, fun i v hv => ?_⟩
              · intro z hz
                rcases List.mem_append.1 hz with hz | hz
                · exact h4 z hz
                · simp at hz; subst hz; exact g3
              · by_cases hi : i < es.length
                · rw [List.getElem?_append_left hi] at hv; exact h5 i v hv
                · rw [List.getElem?_append_right (by omega)] at hv
                  have := g5 _ v hv
                  rw [h2] at this
                  have hi : j * P.cellsOf e ≤ i := by omega
                  have e2 : (a.add (j * P.cellsOf e)).add (i - j * P.cellsOf e) = a.add i ∨ j * P.cellsOf e = i := by
                    by_cases hh : i = j * P.cellsOf e
                    · exact .inr hh.symm
                    · left
                      unfold Addr.add
                      have hd : i - j * P.cellsOf e ≠ 0 := by omega
                      have hi0 : i ≠ 0 := by omega
                      rw [if_neg hd, if_neg hi0]
                      split
                      · rename_i hz; rw [hz] at hi ⊢; simp
                      · simp only [Addr.mk.injEq, true_and, and_true]; omega
                  rcases e2 with e2 | e2
                  · rw [← e2]; exact this
                  · rw [← e2, Nat.sub_self] at this
                    rw [← e2]
                    have e3 : ∀ b : Addr, b.add 0 = b := fun b => by simp [Addr.add]
                    rw [e3] at this; exact this
          obtain ⟨ys, es, h1, h2, h3, h4, h5⟩ := build len (Nat.le_refl _)
          refine ⟨ys, ⟨some a, cap, by show [Value.slice (some a) len cap] = [Value.slice (some a) ys.length cap]; rw [h1], by show ys.length ≤ cap; rw [h1]; exact hlc, ?_⟩, ⟨by show List.length ys ≤ maxLen; omega, fun y hy => (h4 y hy).1⟩, by show List.length ys * q.wd ≤ 140737488351232; rw [h1]; exact hlen2, fun y hy => (h4 y hy).2⟩
          by_cases h0 : ys.length = 0
          · exact .inl h0
          · right
            have hne : 0 < es.length := by rw [h2, hsz]; exact Nat.mul_pos (by omega) hpos
            obtain ⟨v, hv⟩ : ∃ v, es[0]? = some v := ⟨_, List.getElem?_eq_getElem hne⟩
            have hc := h5 0 v hv
            have ha0 : a.add 0 = a := by simp [Addr.add]
            rw [ha0] at hc
            have hsp : a.spot = none ∧ a.block < w.heap.size := by
              unfold World.cell? at hc
              split at hc
              · rename_i hb2
                split at hc
                · simp at hc
                · rename_i hs
                  exact ⟨by simpa using hs, (Array.getElem?_eq_some_iff.1 hb2).1⟩
              · simp at hc
            obtain ⟨b, off, sp⟩ := a
            obtain rfl : sp = none := hsp.1
            refine ⟨b, off, es, rfl, hsp.2, fun i v hv => ?_, h3⟩
            have := h5 i v hv
            unfold Addr.add at this
            split at this
            · rename_i hi; subst hi; exact this
            · exact this
      | array m e => simp at hro
      | struct fs =>
        dsimp only at hk hl hro
        obtain ⟨xs, m, _, hxe, hlen, hxl, hx⟩ := DataW.trod_struct hu h
        subst hxe
        have hgo : ∀ f ∈ fs.toList, roomy P n f.type = true := fun f hf => List.all_eq_true.1 hro f hf
        have ihf : ∀ (f : Field) k cells, kindOf P n f.type = some k → lay P n f.type = true → roomy P n f.type = true → (∃ n x, DataW.trod enc P w base spare held n f.type cells = some x ∧ (∀ m ∈ x.1.weights P f.type, m ≤ reachBytes)) → ∃ y, k.rd w (fun b => b < w.heap.size) y cells ∧ k.wf y ∧ k.sz y :=
          fun f k cells h1 h2 h2' ⟨n', x', h3, h4⟩ => ih f.type k h1 h2 h2' n' cells x' h3 h4
        have hf : ∀ f ∈ fs.toList, ∃ n x, DataW.trod enc P w base spare held n f.type ((cs.drop f.offset).take (P.cellsOf f.type)) = some x ∧ (∀ m ∈ x.1.weights P f.type, m ≤ reachBytes) := by
          intro f hf
          obtain ⟨i, hi⟩ := List.mem_iff_getElem?.1 hf
          have hi' : fs[i]? = some f := by simpa using hi
          have := hx i f hi'
          obtain ⟨z, hz⟩ : ∃ z, xs[i]? = some z := ⟨_, List.getElem?_eq_getElem (by rw [hxl]; exact (Array.getElem?_eq_some_iff.1 hi').1)⟩
          refine ⟨m, z, this.trans hz, fun n hn => hwt n ?_⟩
          simp only [DataW.weights, hu]
          exact DataW.weights_mem_each (j := i) (t := f.type) (d := z.1) (by simp [List.getElem?_map, hi]) (by simp [List.getElem?_map, hz]) n hn
        split at hk
        · rename_i x1 hfs
          split at hk
          rotate_left
          · simp at hk
          rename_i q hq
          simp only [Option.some.injEq] at hk; subst hk
          rw [hfs] at hl hf hgo
          obtain ⟨y, g1, g2, g3⟩ := fields_openS (enc := enc) (R := fun f d => ∀ m ∈ d.weights P f.type, m ≤ reachBytes) hlen ihf [x1] 0 q (by simp [kindFields, hq]) hl (Nat.zero_le _) hgo hf
          exact ⟨(y, ()), ⟨cs, [], by simp, by simpa using g1, rfl⟩, ⟨g2, trivial⟩, g3, trivial⟩
        · obtain ⟨y, g1, g2⟩ := fields_openS (enc := enc) (R := fun f d => ∀ m ∈ d.weights P f.type, m ≤ reachBytes) hlen ihf fs.toList 0 k hk hl (Nat.zero_le _) hgo hf
          exact ⟨y, by simpa using g1, g2⟩
      | _ => simp at hk
end

theorem val_openS {H : Type} {enc : TypeId × Value → H} {P : Program} {w w0 : World} {base base' : Nat} {spare : Nat → Bool} {held : Bool} {t : TypeId} {v : Value} {d : DataW H} {q : List MemPlace} {p : Bool × K} (hk : kindOf P 30 t = some p.2) (hg : isAggT P t = p.1) (hl : lay P 30 t = true) (hro : roomy P 30 t = true)
    (hok : Value.okWide P w0 .any base' t v) (h : DataW.Trod enc P w base spare held t v d q) (hwt : ∀ n ∈ d.weights P t, n ≤ reachBytes) : ∃ y, valR w (fun b => b < w.heap.size) p y v ∧ p.2.wf y ∧ p.2.sz y := by
  obtain ⟨fuel, hf⟩ := h
  obtain ⟨y, h1, h2⟩ := trod_openS 30 t p.2 hk hl hro fuel _ _ hf hwt
  refine ⟨y, ?_, h2⟩
  obtain ⟨pa, pk⟩ := p
  cases pa with
  | true =>
    have : ∃ cs, v = .agg cs := by
      unfold isAggT at hg
      unfold Value.okWide at hok
      split at hg
      · rename_i hu; rw [hu] at hok; obtain ⟨cs, e, _⟩ := hok; exact ⟨cs, e⟩
      · rename_i hu; rw [hu] at hok; obtain ⟨cs, e, _⟩ := hok; exact ⟨cs, e⟩
      · simp at hg
    obtain ⟨cs, rfl⟩ := this
    exact ⟨cs.toList, by simp, by simpa [Value.cells] using h1⟩
  | false =>
    have : v.cells = #[v] := by
      unfold kindOf at hk
      cases hu : P.underlying t with
      | none => simp [hu] at hk
      | some dd =>
        simp only [hu] at hk
        cases dd with
        | int q => obtain ⟨m, rfl⟩ := WideShapes.okWide_int hu hok; rfl
        | bool => obtain ⟨m, rfl⟩ := WideShapes.okWide_bool hu hok; rfl
        | string => obtain ⟨m, rfl⟩ := WideShapes.okWide_string hu hok; rfl
        | slice e => obtain ⟨a, b, c, rfl⟩ := WideShapes.okWide_slice hu hok; rfl
        | struct fs => simp [isAggT, hu] at hg
        | array m e => simp [isAggT, hu] at hg
        | _ => simp at hk
    rw [this] at h1
    exact h1

theorem args_openS {H : Type} {enc : TypeId × Value → H} {P : Program} {w w0 : World} {base base' : Nat} {spare : Nat → Bool} {held : Bool} : ∀ {ts : List TypeId} {ps : List (Bool × K)} {vs : List Value} {ds : List (DataW H)} {q : List MemPlace}, psOk P ts ps = true →
    (∀ (j : Nat) t v, ts[j]? = some t → vs[j]? = some v → Value.okWide P w0 .any base' t v) → (∀ t ∈ ts, roomy P 30 t = true) → DataW.TrodAll enc P w base spare held ts vs ds q → (∀ n ∈ DataW.weightsEach P ts ds, n ≤ reachBytes) → ∃ x, argsR w (fun b => b < w.heap.size) ps x vs ∧ PWf ps x ∧ PSz ps x
  | [], [], vs, ds, q, _, _, _, h, _ => by
    obtain ⟨rfl, _, _⟩ := ChangeShapes.trodAll_nil h
    exact ⟨(), rfl, trivial, trivial⟩
  | t :: ts, p :: ps, vs, ds, q, hp, hv, hro, h, hwt => by
    obtain ⟨v, vs', d, ds', p1, q1, rfl, rfl, rfl, h1, h2⟩ := ChangeShapes.trodAll_cons h
    simp only [psOk, Bool.and_eq_true, decide_eq_true_eq, beq_iff_eq] at hp
    obtain ⟨⟨⟨g1, g2⟩, g3⟩, g4⟩ := hp
    simp only [DataW.weightsEach] at hwt
    obtain ⟨y, k1, k2, k2'⟩ := val_openS g1 g2 g3 (hro t (by simp)) (hv 0 t v rfl rfl) h1 (fun n hn => hwt n (List.mem_append_left _ hn))
    obtain ⟨x, k3, k4, k4'⟩ := args_openS g4 (fun j t' v' e1 e2 => hv (j + 1) t' v' (by simpa using e1) (by simpa using e2)) (fun t' h' => hro t' (by simp [h'])) h2 (fun n hn => hwt n (List.mem_append_right _ hn))
    exact ⟨(y, x), ⟨v, vs', rfl, k1, k3⟩, ⟨k2, k4⟩, k2', k4'⟩
  | [], _ :: _, _, _, _, hp, _, _, _, _ => by simp [psOk] at hp
  | _ :: _, [], _, _, _, hp, _, _, _, _ => by simp [psOk] at hp

theorem law_callS {P : Program} {f : FuncId} {ps : List (Bool × K)} {share : Bool} {m : PDen ps → Option (PDen [(false, .bool)])} (c : CS.Sound P f ⟨ps, [(false, .bool)], share, m⟩) (hm : ∀ x, PWf ps x → PSz ps x → m x = some (true, ()))
    {H : Type} {enc : TypeId × Value → H} {w w0 : World} {base base' : Nat} {spare : Nat → Bool} {held : Bool} {ts : List TypeId} {args : Array Value} {ds : List (DataW H)} {q : List MemPlace} (hps : psOk P ts ps = true) (hro : (ts.all fun t => roomy P 30 t) = true)
    (hv : ∀ (j : Nat) t v, ts[j]? = some t → args.toList[j]? = some v → Value.okWide P w0 .any base' t v) (h : DataW.TrodAll enc P w base spare held ts args.toList ds q) (hwt : (DataW.weightsEach P ts ds).all (· ≤ reachBytes) = true) :
    Calls P f args w fun e w' => e = .returned (.bool true) ∧ Below w.heap.size w w' := by
  obtain ⟨x, h1, h2, h3⟩ := args_openS hps hv (fun t ht => List.all_eq_true.1 hro t ht) h (fun n hn => by simpa using List.all_eq_true.1 hwt n hn)
  have := c.2 x _ (hm x h2 h3) w (fun b => b < w.heap.size) args.toList (fun _ hb => hb) h1
  refine (by simpa using this : Calls P f args w _).mono ?_
  rintro e w' ⟨v, rfl, hg, hr⟩
  refine ⟨?_, hg.below⟩
  have hr : [v] = [Value.bool true] := hr
  simp only [List.cons.injEq, and_true] at hr
  rw [hr]

end Go.Proofs.AM
end
