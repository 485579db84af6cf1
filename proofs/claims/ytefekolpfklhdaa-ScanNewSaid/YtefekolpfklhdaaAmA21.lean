/- Steps of two states: those that read, those that turn memory. -/
import Derived.Test.YtefekolpfklhdaaAmA20
set_option maxRecDepth 2000
set_option linter.unusedVariables false
set_option linter.unusedSimpArgs false
namespace Go.Proofs.AM
open Go Go.RowKit

def isEff (Γ : Env) (o : Oper) : Bool := match o.op with
  | .alloc _ | .box _ _ | .store _ _ _ | .makeMap _ _ | .mapUpdate _ _ _ _ | .range _ _ => true
  | .makeSlice _ _ _ | .buildSlice _ _ _ => !Γ.im o
  | .call c => match c.callee with
    | .builtin .append | .builtin .copy | .builtin .delete => true
    | .value (.func f) => (Γ.hd f).isSome
    | _ => false
  | _ => false

/-- Only a new object. -/
def isPush (Γ : Env) (o : Oper) : Bool := match o.op with
  | .alloc _ | .box _ _ | .makeSlice _ _ _ | .buildSlice _ _ _ | .makeMap _ _ => true
  | .call c => match c.callee with
    | .builtin .append => match c.args.toList with
      | .const (.slice none 0 0) :: _ => true
      | _ => false
    | .value (.func f) => match Γ.hd f with
      | some d => d.push
      | none => false
    | _ => false
  | _ => false

/-- A new row of cells, as data. -/
def amakeV (P : Program) (s : AS) (t : TypeId) (x y : Operand) {R : Type} (k : TV → Option R) : Option R :=
  match aelem P t, s.ev x, s.ev y with
  | some e, .one (.dat (.int .i64) n _), .one (.dat (.int .i64) m _) => match P.info? e, kindOf P 30 e, azero P e with
    | some i, some q, some z => match K.of s.heap false q z with
      | some (zd, true) => if i.size = q.size ∧ 0 < i.size ∧ 0 < i.bytes then gd (0 ≤ n) (gd (n ≤ m) (gd (m * i.bytes ≤ 140737488355328) (k (.one (.dat (.sl q) (List.replicate n.toNat zd) true))))) else none
      | _ => none
    | _, _, _ => none
  | _, _, _ => none

def abuildV (P : Program) (s : AS) (t : TypeId) (n : Nat) (parts : List (Nat × Operand)) {R : Type} (k : TV → Option R) : Option R :=
  match aelem P t with
  | none => none
  | some e => match P.info? e, kindOf P 30 e, azero P e with
    | some i, some q, some z => if i.size = q.size ∧ z.length = q.size ∧ parts.length = n ∧ n * i.size ≤ 16777216 then
        match aelems s.heap q 0 (parts.map fun p => (p.1, s.ev p.2)) with
        | some (xs, f) => k (.one (.dat (.sl q) xs f))
        | none => none
      else none
    | _, _, _ => none

/-- A reading step, as a value. -/
def avc (P : Program) (Γ : Env) (s : AS) (o : Oper) {R : Type} (k : TV → Option R) : Option R := match o.op with
  | .call c => match c.callee with
    | .builtin _ => aval P s o k
    | .value f => match s.ev f with
      | .one (.fn fid caps) => match Γ.hd fid with
        | none => acall Γ s fid (c.args.toList.map s.ev ++ caps.map (fun l => .one (.ptr l 0))) k
        | some _ => none
      | _ => none
    | _ => none
  | .makeSlice t x y => amakeV P s t x y k
  | .buildSlice t n parts => abuildV P s t n parts.toList k
  | .lookup t x i ok => alookup P s.heap t (s.ev x) (s.ev i) ok k
  | .entry x => aentry s.heap (s.ev x) k
  | _ => aval P s o k

section
variable {P : Program} {Γ : Env} {r s : AS} {o : Oper}

theorem astep_avc (h : isEff Γ o = false) {R : Type} (k : AS → Option R) : astep P Γ s o k = avc P Γ s o (fun tv => k (s.put o.dst tv)) := by
  unfold isEff at h
  unfold astep avc
  cases hop : o.op with
  | call c =>
    simp only [hop] at h ⊢
    cases hc : c.callee with
    | builtin b => cases b <;> simp [hc] at h ⊢
    | value f =>
      simp only [hc] at h ⊢
      generalize hu : s.ev f = u
      cases u with
      | one a => cases a with
        | fn fid caps =>
          simp only
          cases hd : Γ.hd fid with
          | none => rfl
          | some d =>
            cases f with
            | func g =>
              simp only [AS.ev, TV.one.injEq, AV.fn.injEq] at hu
              obtain ⟨rfl, _⟩ := hu
              simp [hd] at h
            | _ => rfl
        | _ => rfl
      | _ => rfl
    | invoke _ _ => rfl
  | makeSlice t x y =>
    simp only [hop, Bool.not_eq_false'] at h
    simp only [h]
    unfold amake amakeV
    split
    · rename_i e n f1 m f2 h1 h2 h3
      simp only [h1, h2, h3]
      split
      · rename_i i q z g1 g2 g3
        simp only [g1, g2, g3]
        split
        · rename_i zd hz
          simp only [hz]; rfl
        · rename_i hno
          split
          · rename_i zd hz; exact (hno zd hz).elim
          · rfl
      · rename_i hno
        split
        · rename_i i q z g1 g2 g3; exact (hno i q z g1 g2 g3).elim
        · rfl
    · rename_i hno
      split
      · rename_i e n f1 m f2 h1 h2 h3; exact (hno e n f1 m f2 h1 h2 h3).elim
      · rfl
  | buildSlice t n parts =>
    simp only [hop, Bool.not_eq_false'] at h
    simp only [h]
    unfold abuildSlice abuildV
    split
    · rename_i h1; simp only [h1]
    · rename_i e h1
      simp only [h1]
      split
      · rename_i i q z g1 g2 g3
        simp only [g1, g2, g3]
        split
        · split
          · rename_i xs f hx; simp only [hx]; rfl
          · rename_i hx; simp only [hx]
        · rfl
      · rename_i hno
        split
        · rename_i i q z g1 g2 g3; exact (hno i q z g1 g2 g3).elim
        · rfl
  | _ => simp [hop] at h ⊢

theorem aelems_two {h h' : Heap} (hs : Sub h h') {q : K} : ∀ (n : Nat) (l : List (Nat × TV)) (p : List q.den × Bool), aelems h q n l = some p → aelems h' q n l = some p
  | _, [], p, e => e
  | n, (i, t) :: r, p, e => by
    unfold aelems at e ⊢
    split at e
    · rename_i hc
      rw [if_pos hc]
      split at e
      · rename_i x f xs g h1 h2
        rw [of_two hs h1, aelems_two hs (n + 1) r _ h2]
        exact e
      · simp at e
    · simp at e

theorem amakeV_two {t : TypeId} {x y : Operand} (h1 : s.ev x = r.ev x) (h2 : s.ev y = r.ev y) (hs : Sub r.heap s.heap) : Two (fun _ k => amakeV P r t x y k) (fun _ k => amakeV P s t x y k) := by
  intro R k v e
  dsimp only at e ⊢
  unfold amakeV at e ⊢
  rw [h1, h2]
  generalize r.ev x = u1 at e ⊢
  generalize r.ev y = u2 at e ⊢
  split at e
  · split at e
    · split at e
      · rename_i zd hz
        rw [of_two hs hz]
        split at e
        · rename_i hc
          obtain ⟨g1, e⟩ := gd_some e
          obtain ⟨g2, e⟩ := gd_some e
          obtain ⟨g3, e⟩ := gd_some e
          exact ⟨_, e, fun _ _ => by simp only [if_pos hc, gd_pos g1, gd_pos g2, gd_pos g3]⟩
        · simp at e
      · simp at e
    · simp at e
  · simp at e

theorem abuildV_two {t : TypeId} {n : Nat} {parts : List (Nat × Operand)} (h : ∀ p ∈ parts, s.ev p.2 = r.ev p.2) (hs : Sub r.heap s.heap) : Two (fun _ k => abuildV P r t n parts k) (fun _ k => abuildV P s t n parts k) := by
  intro R k v e
  dsimp only at e ⊢
  unfold abuildV at e ⊢
  have hm : (parts.map fun p => (p.1, s.ev p.2)) = parts.map fun p => (p.1, r.ev p.2) := List.map_congr_left fun p hp => by rw [h p hp]
  rw [hm]
  split at e
  · simp at e
  · split at e
    · split at e
      · rename_i hc
        split at e
        · rename_i xs f hx
          exact ⟨_, e, fun _ _ => by simp only [if_pos hc, aelems_two hs _ _ _ hx]⟩
        · simp at e
      · simp at e
    · simp at e

theorem hat_sub {h h' : Heap} (hs : Sub h h') {l : Nat} {o : AObj} (e : hat h l = o) (hne : o ≠ .dead) : hat h' l = o := by
  rcases hs l with hd | hd
  · rw [e] at hd; exact absurd hd hne
  · rw [hd, e]

theorem decT_two {h h' : Heap} (hs : Sub h h') {k : Bool × K} {t : TV} {p : k.2.den × Bool} (e : decT h k t = some p) : decT h' k t = some p := by
  unfold decT at e ⊢
  split at e
  · split at e
    · exact of_two hs e
    · simp at e
  · split at e
    · simp at e
    · exact of_two hs e
  · simp at e

theorem zeroD_two {h h' : Heap} (hs : Sub h h') {t : TypeId} {k : Bool × K} {z : k.2.den} (e : zeroD P h t k = some z) : zeroD P h' t k = some z := by
  unfold zeroD at e ⊢
  split at e
  · split at e
    · split at e
      · rename_i hz; rw [decT_two hs hz]; exact e
      · simp at e
    · simp at e
  · simp at e

theorem alookup_two {h h' : Heap} (hs : Sub h h') {t : TypeId} {x i : TV} {ok : Bool} : Two (fun _ k => alookup P h t x i ok k) (fun _ k => alookup P h' t x i ok k) := by
  intro R k v e
  dsimp only at e ⊢
  unfold alookup at e ⊢
  split at e
  · rename_i kt vt l hu
    split at e
    · rename_i ki vi es fr ho
      rw [hat_sub hs ho (by simp)]
      split at e
      · rename_i hk
        split at e
        · rename_i xk f z h1 h2
          cases ok with
          | true => exact ⟨_, e, fun _ _ => by simp only [if_pos hk, decT_two hs h1, zeroD_two hs h2]⟩
          | false =>
            dsimp only at e
            split at e
            · rename_i tv htv
              exact ⟨_, e, fun _ _ => by simp only [if_pos hk, decT_two hs h1, zeroD_two hs h2, htv]⟩
            · simp at e
        · simp at e
      · simp at e
    · simp at e
  · simp at e

theorem aentry_two {h h' : Heap} (hs : Sub h h') {x : TV} : Two (fun _ k => aentry h x k) (fun _ k => aentry h' x k) := by
  intro R k v e
  dsimp only at e ⊢
  unfold aentry at e ⊢
  split at e
  · rename_i l
    split at e
    · rename_i ho
      rw [hat_sub hs ho (by simp)]
      exact ⟨_, e, fun _ _ => rfl⟩
    · simp at e
  · simp at e

theorem avc_two (hev : Like o r s) (hs : Sub r.heap s.heap) : Two (fun _ k => avc P Γ r o k) (fun _ k => avc P Γ s o k) := by
  intro R k x e
  dsimp only at e ⊢
  unfold avc at e ⊢
  cases hop : o.op with
  | call c =>
    simp only [hop] at e ⊢
    cases hc : c.callee with
    | builtin b => simp only [hc] at e ⊢; exact aval_two hev hs R k x e
    | value f =>
      simp only [hc] at e ⊢
      unfold Like at hev
      simp only [hop, Op.operands, Call.operands, hc] at hev
      have h1 : c.args.toList.map s.ev = c.args.toList.map r.ev := map_ev fun y hy => hev y (by simp [Array.mem_toList_iff.1 hy])
      rw [hev f (by simp), h1]
      generalize r.ev f = u at e ⊢
      split at e
      · split at e
        · exact acall_two hs R k x e
        · simp at e
      · simp at e
    | invoke _ _ => simp [hc] at e
  | makeSlice t y z =>
    simp only [hop] at e ⊢
    unfold Like at hev
    simp only [hop, Op.operands] at hev
    exact amakeV_two (hev y (by simp)) (hev z (by simp)) hs R k x e
  | buildSlice t n parts =>
    simp only [hop] at e ⊢
    unfold Like at hev
    simp only [hop, Op.operands] at hev
    exact abuildV_two (fun p hp => hev p.2 (by simp only [List.mem_toArray, List.mem_map]; exact ⟨p, hp, rfl⟩)) hs R k x e
  | lookup t y i ok =>
    simp only [hop] at e ⊢
    unfold Like at hev
    simp only [hop, Op.operands] at hev
    rw [hev y (by simp), hev i (by simp)]
    exact alookup_two hs R k x e
  | entry y =>
    simp only [hop] at e ⊢
    unfold Like at hev
    simp only [hop, Op.operands] at hev
    rw [hev y (by simp)]
    exact aentry_two hs R k x e
  | _ => simp only [hop] at e ⊢; exact aval_two hev hs R k x e

/-- A step that reads says the same wherever it is taken. -/
theorem step_read (hn : isEff Γ o = false) {R : Type} {k : AS → Option R} {x : R} (e : astep P Γ r o k = some x) :
    ∃ t, k (r.put o.dst t) = some x ∧ ∀ s, Like o r s → Sub r.heap s.heap → ∀ (R' : Type) (k' : AS → Option R'), astep P Γ s o k' = k' (s.put o.dst t) := by
  rw [astep_avc hn] at e
  obtain ⟨t, h1, h2⟩ := avc_two (P := P) (Γ := Γ) (o := o) (r := r) (s := r) (fun _ _ => rfl) (Sub.refl _) R _ x e
  refine ⟨t, h1, fun s hl hs R' k' => ?_⟩
  obtain ⟨t', h3, h4⟩ := avc_two (P := P) (Γ := Γ) hl hs TV some t (h2 TV some)
  simp only [Option.some.injEq] at h3
  subst h3
  rw [astep_avc hn]
  exact h4 _ _

/-- A step that turns memory says the same wherever it meets the same memory. -/
def EffTwo (P : Program) (Γ : Env) (r : AS) (o : Oper) {R : Type} (k : AS → Option R) (x : R) : Prop :=
  ∃ t h', k ({ r with heap := h' }.put o.dst t) = some x ∧ (isPush Γ o = true → ∃ δ, h' = r.heap ++ δ) ∧
    ∀ s : AS, Like o r s → s.heap = r.heap → ∀ (R' : Type) (k' : AS → Option R'), astep P Γ s o k' = k' ({ s with heap := h' }.put o.dst t)

theorem push_eq {o : AObj} : s.push o = { s with heap := s.heap ++ [(true, o)] } := rfl
theorem upd_eq {l : Nat} {o : AObj} : s.upd l o = { s with heap := s.heap.set l (true, o) } := rfl

theorem astore_two {t : TypeId} {d : AV} {v : TV} {R : Type} {k : AS → Option R} {x : R} (e : astore P r t d v k = some x) :
    ∃ h', k { r with heap := h' } = some x ∧ ∀ s : AS, s.heap = r.heap → ∀ (R' : Type) (k' : AS → Option R'), astore P s t d v k' = k' { s with heap := h' } := by
  unfold astore at e
  split at e
  · simp at e
  rename_i i hi
  split at e
  rotate_left
  · simp at e
  rename_i hc
  split at e
  · rename_i l off
    split at e
    · rename_i T cs hl
      split at e
      · rename_i hb
        refine ⟨_, e, fun s hs R' k' => ?_⟩
        simp only [astore, hi, if_pos hc, hs, hl, if_pos hb, upd_eq]
      · simp at e
    · simp at e
  · rename_i l j off
    split at e
    · rename_i T q xs fr hl
      split at e
      · rename_i hb
        obtain ⟨hg, e⟩ := gd_some e
        split at e
        · rename_i y f hy
          refine ⟨_, e, fun s hs R' k' => ?_⟩
          simp only [astore, hi, if_pos hc, hs, hl, if_pos hb, gd_pos hg, hy, upd_eq]
        · simp at e
      · simp at e
    · simp at e
  · simp at e

theorem kill_heap {l : Option Nat} (h : s.heap = r.heap) : s.kill l = { s with heap := (r.kill l).heap } := by
  cases l with
  | none => simp [AS.kill, ← h]
  | some l => simp [AS.kill, upd_eq, h]

theorem eff_two (he : isEff Γ o = true) {R : Type} {k : AS → Option R} {x : R} (e : astep P Γ r o k = some x) : EffTwo P Γ r o k x := by
  unfold isEff at he
  unfold EffTwo Like
  cases hop : o.op with
  | alloc t =>
    simp only [astep, hop] at e
    split at e
    · rename_i cs hz
      refine ⟨.one (.ptr r.heap.length 0), r.heap ++ [(true, AObj.box t cs)], e, fun _ => ⟨_, rfl⟩, fun s _ hs R' k' => ?_⟩
      simp only [astep, hop, hz, push_eq, hs]
    · simp at e
  | box t y =>
    simp only [astep, hop] at e
    split at e
    · rename_i hz
      refine ⟨.one (.ptr r.heap.length 0), r.heap ++ [(true, AObj.box t (r.ev y).cells)], e, fun _ => ⟨_, rfl⟩, fun s hl hs R' k' => ?_⟩
      simp only [Op.operands] at hl
      have hy := hl y (by simp)
      simp only [astep, hop, hy, if_pos hz, push_eq, hs]
    · simp at e
  | store t y z =>
    simp only [astep, hop] at e
    split at e
    · rename_i d hd
      obtain ⟨h', h1, h2⟩ := astore_two e
      refine ⟨.one .junk, h', h1, fun hp => by simp [isPush, hop] at hp, fun s hl hs R' k' => ?_⟩
      simp only [Op.operands] at hl
      have hy := hl y (by simp)
      have hz := hl z (by simp)
      simp only [astep, hop, hy, hz, hd]
      exact h2 s hs _ _
    · simp at e
  | makeSlice t y z =>
    have him : Γ.im o = false := by simpa [hop] using he
    simp only [astep, hop, amake, him, AS.made] at e
    split at e
    rotate_left
    · simp at e
    rename_i e' n fr1 m fr2 h1 h2 h3
    split at e
    rotate_left
    · simp at e
    rename_i i q zz h4 h5 h6
    split at e
    rotate_left
    · simp at e
    rename_i zd h7
    split at e
    rotate_left
    · simp at e
    rename_i hc
    obtain ⟨g1, e⟩ := gd_some e
    obtain ⟨g2, e⟩ := gd_some e
    obtain ⟨g3, e⟩ := gd_some e
    refine ⟨.one (.vf r.heap.length), _, e, fun _ => ⟨_, rfl⟩, fun s hl hs R' k' => ?_⟩
    simp only [Op.operands] at hl
    have hy := hl y (by simp)
    have hz := hl z (by simp)
    simp only [astep, hop, amake, him, AS.made, hy, hz, h1, h2, h3, h4, h5, h6, hs, h7, if_pos hc, gd_pos g1, gd_pos g2, gd_pos g3, push_eq]
  | buildSlice t n parts =>
    have him : Γ.im o = false := by simpa [hop] using he
    simp only [astep, hop, abuildSlice, him, AS.made] at e
    split at e
    · simp at e
    rename_i e' h1
    split at e
    rotate_left
    · simp at e
    rename_i i q z h2 h3 h4
    split at e
    rotate_left
    · simp at e
    rename_i hc
    split at e
    rotate_left
    · simp at e
    rename_i xs f h5
    refine ⟨.one (.vf r.heap.length), _, e, fun _ => ⟨_, rfl⟩, fun s hl hs R' k' => ?_⟩
    simp only [Op.operands] at hl
    have hm : (parts.toList.map fun p => (p.1, s.ev p.2)) = parts.toList.map fun p => (p.1, r.ev p.2) := List.map_congr_left fun p hp => by
      rw [hl p.2 (by simp only [List.mem_toArray, List.mem_map]; exact ⟨p, hp, rfl⟩)]
    simp only [astep, hop, abuildSlice, him, AS.made, h1, h2, h3, h4, if_pos hc, hm, hs, h5, push_eq]
  | call c =>
    simp only [hop] at he
    cases hc : c.callee with
    | value f =>
      cases f with
      | func g =>
        simp only [hc] at he
        obtain ⟨d, hd⟩ := Option.isSome_iff_exists.1 he
        have hops : ∀ s : AS, (∀ v ∈ (Op.call c).operands, s.ev v = r.ev v) → c.args.toList.map s.ev = c.args.toList.map r.ev := fun s hl => by
          simp only [Op.operands, Call.operands, hc] at hl
          exact map_ev fun y hy => hl y (by simp [Array.mem_toList_iff.1 hy])
        have hrun : ∀ (s : AS) (R' : Type) (k' : AS → Option R'), astep P Γ s o k' = acallH d s (c.args.toList.map s.ev ++ []) (fun s' tv => k' (s'.put o.dst tv)) := fun s R' k' => by
          simp only [astep, hop, hc, AS.ev, hd, List.map_nil]
        rw [hrun] at e
        unfold acallH at e
        split at e
        · simp at e
        rename_i xx hx
        obtain ⟨y, hy, e⟩ := Option.bind_eq_some_iff.1 e
        refine ⟨_, _, e, fun hp => ?_, fun s hl hs R' k' => ?_⟩
        · simp only [isPush, hop, hc, hd] at hp
          exact d.pushes hp _ _ _ _
        · rw [hrun]
          unfold acallH
          rw [hops s hl, hs, hx]
          simp only [hy, Option.bind_some]
      | _ => simp [hc] at he
    | invoke _ _ => simp [hc] at he
    | builtin b =>
      cases b with
      | append =>
        simp only [astep, hop, hc, aappend] at e
        split at e
        rotate_left
        · simp at e
        rename_i y z t t' ha ht
        split at e
        rotate_left
        · simp at e
        rename_i htt
        split at e
        rotate_left
        · simp at e
        rename_i e' av bv h1 h2 h3
        have hops : ∀ s : AS, (∀ v ∈ (Op.call c).operands, s.ev v = r.ev v) → s.ev y = r.ev y ∧ s.ev z = r.ev z := fun s hl => by
          simp only [Op.operands, Call.operands, hc] at hl
          have hm : ∀ v ∈ c.args.toList, s.ev v = r.ev v := fun v hv => hl v (by simp [Array.mem_toList_iff.1 hv])
          rw [ha] at hm
          exact ⟨hm y (by simp), hm z (by simp)⟩
        have to : ∀ {q : K} {ys : List q.den} {f2 : Bool}, aappendTo P r o.dst e' q ys f2 av k = some x →
            ∃ t h', k ({ r with heap := h' }.put o.dst t) = some x ∧ (isPush Γ o = true → ∃ δ, h' = r.heap ++ δ) ∧
              ∀ s : AS, s.heap = r.heap → ∀ (R' : Type) (k' : AS → Option R'), aappendTo P s o.dst e' q ys f2 av k' = k' ({ s with heap := h' }.put o.dst t) := by
          intro q ys f2 e
          unfold aappendTo at e
          split at e
          rotate_left
          · simp at e
          rename_i xs f1 l i zz q1 q2 q3
          split at e
          rotate_left
          · simp at e
          rename_i hcc
          obtain ⟨_, e, g0⟩ := avwOk_some e q1
          obtain ⟨g1, e⟩ := gd_some e
          obtain ⟨g2, e⟩ := gd_some e
          have hkr : r.kill l = { r with heap := (r.kill l).heap } := kill_heap rfl
          refine ⟨.one (.vf r.heap.length), (r.kill l).heap ++ [(true, AObj.vec e' q (xs ++ ys) (f1 && f2))], by rw [hkr] at e; exact e, fun hp => ?_, fun s hs R' k' => ?_⟩
          · simp only [isPush, hop, hc, ha] at hp
            split at hp
            · rename_i hcons
              simp only [List.cons.injEq] at hcons
              obtain ⟨rfl, _⟩ := hcons
              have : av = .nilsl := by
                have : r.ev (.const (.slice none 0 0)) = .one .nilsl := rfl
                rw [this] at h2; simpa using h2.symm
              subst this
              simp only [aowned0, Option.some.injEq, Prod.mk.injEq] at q1
              obtain ⟨_, _, rfl⟩ := q1
              exact ⟨_, rfl⟩
            · simp at hp
          · simp only [aappendTo, hs, q1, q2, q3, if_pos hcc, g0, gd_pos g1, gd_pos g2, push_eq, kill_heap (l := l) hs]
        split at e
        · rename_i q ys f2 hb
          obtain ⟨t, h', k1, k2, k3⟩ := to e
          refine ⟨t, h', k1, k2, fun s hl hs R' k' => ?_⟩
          obtain ⟨e1, e2⟩ := hops s hl
          simp only [astep, hop, hc, aappend, ha, ht, if_pos htt, h1, h2, h3, e1, e2, hs, hb]
          exact k3 s hs R' k'
        · rename_i hb
          split at e
          · rename_i q hq
            obtain ⟨t, h', k1, k2, k3⟩ := to e
            refine ⟨t, h', k1, k2, fun s hl hs R' k' => ?_⟩
            obtain ⟨e1, e2⟩ := hops s hl
            simp only [astep, hop, hc, aappend, ha, ht, if_pos htt, h1, h2, h3, e1, e2, hs, hb, hq]
            exact k3 s hs R' k'
          · simp at e
        · simp at e
      | copy =>
        simp only [astep, hop, hc, acopy] at e
        split at e
        rotate_left
        · simp at e
        rename_i y z t tl ha ht
        split at e
        rotate_left
        · simp at e
        rename_i e' av bv h1 h2 h3
        have hops : ∀ s : AS, (∀ v ∈ (Op.call c).operands, s.ev v = r.ev v) → s.ev y = r.ev y ∧ s.ev z = r.ev z := fun s hl => by
          simp only [Op.operands, Call.operands, hc] at hl
          have hm : ∀ v ∈ c.args.toList, s.ev v = r.ev v := fun v hv => hl v (by simp [Array.mem_toList_iff.1 hv])
          rw [ha] at hm
          exact ⟨hm y (by simp), hm z (by simp)⟩
        have np : isPush Γ o = true → y = .const (.slice none 0 0) := fun hp => by simp [isPush, hop, hc] at hp
        have nn : isPush Γ o = true → av = .nilsl := fun hp => by
          have hy := np hp
          subst hy
          have : r.ev (.const (.slice none 0 0)) = .one .nilsl := rfl
          rw [this] at h2; simpa using h2.symm
        split at e
        rotate_left
        · simp at e
        rename_i q ys f2 hb
        split at e
        · rename_i l
          split at e
          rotate_left
          · simp at e
          rename_i T q' xs fr hl
          split at e
          rotate_left
          · simp at e
          rename_i hq
          unfold szOk at e
          split at e
          rotate_left
          · simp at e
          rename_i ii hii
          split at e
          rotate_left
          · simp at e
          rename_i hsz
          refine ⟨_, _, e, fun hp => by have := nn hp; simp at this, fun s hl' hs R' k' => ?_⟩
          obtain ⟨e1, e2⟩ := hops s hl'
          simp only [astep, hop, hc, acopy, ha, ht, h1, h2, h3, e1, e2, hs, hb, hl, dif_pos hq, szOk, hii, if_pos hsz, upd_eq]
        · rename_i l off len
          split at e
          rotate_left
          · simp at e
          rename_i T q' xs fr hl
          split at e
          rotate_left
          · simp at e
          rename_i hq
          unfold szOk at e
          split at e
          rotate_left
          · simp at e
          rename_i ii hii
          split at e
          rotate_left
          · simp at e
          rename_i hsz
          refine ⟨_, _, e, fun hp => by have := nn hp; simp at this, fun s hl' hs R' k' => ?_⟩
          obtain ⟨e1, e2⟩ := hops s hl'
          simp only [astep, hop, hc, acopy, ha, ht, h1, h2, h3, e1, e2, hs, hb, hl, dif_pos hq, szOk, hii, if_pos hsz, upd_eq]
        · simp at e
      | delete =>
        simp only [astep, hop, hc, adelete] at e
        split at e
        rotate_left
        · simp at e
        rename_i m i t rest ha ht
        split at e
        rotate_left
        · simp at e
        rename_i kt vt l h1 h2
        split at e
        rotate_left
        · simp at e
        rename_i ki vi es fr h3
        split at e
        rotate_left
        · simp at e
        rename_i h4
        split at e
        rotate_left
        · simp at e
        rename_i xk f h5
        refine ⟨_, _, e, fun hp => ?_, fun s hl hs R' k' => ?_⟩
        · simp [isPush, hop, hc] at hp
        · simp only [Op.operands, Call.operands, hc] at hl
          have hm : ∀ v ∈ c.args.toList, s.ev v = r.ev v := fun v hv => hl v (by simp [Array.mem_toList_iff.1 hv])
          rw [ha] at hm
          have e1 := hm m (by simp)
          have e2 := hm i (by simp)
          simp only [astep, hop, hc, adelete, ha, ht, h1, h2, e1, e2, hs, h3, if_pos h4, h5, upd_eq]
      | _ => simp [hc] at he
  | makeMap t rv =>
    cases rv with
    | some _ => simp [astep, hop, aval] at e
    | none =>
      simp only [astep, hop, amakeMap] at e
      split at e
      rotate_left
      · simp at e
      rename_i kt vt h1
      split at e
      rotate_left
      · simp at e
      rename_i kk vk h2 h3
      refine ⟨_, _, e, fun _ => ⟨_, rfl⟩, fun s hl hs R' k' => ?_⟩
      simp only [astep, hop, amakeMap, h1, h2, h3, push_eq, hs]
  | range t y =>
    simp only [astep, hop, arange] at e
    split at e
    rotate_left
    · simp at e
    rename_i kt vt m h1 h2
    split at e
    rotate_left
    · simp at e
    rename_i ki vi es fr h3
    refine ⟨_, _, e, fun hp => ?_, fun s hl hs R' k' => ?_⟩
    · simp [isPush, hop] at hp
    · simp only [Op.operands] at hl
      have e1 := hl y (by simp)
      simp only [astep, hop, arange, h1, h2, e1, hs, h3]
  | mapUpdate t m i y =>
    simp only [astep, hop, amapUpdate] at e
    split at e
    rotate_left
    · simp at e
    rename_i kt vt l h1 h2
    split at e
    rotate_left
    · simp at e
    rename_i ki vi es fr h3
    split at e
    rotate_left
    · simp at e
    rename_i h4
    split at e
    rotate_left
    · simp at e
    rename_i xk f1 yk f2 h5 h6
    refine ⟨_, _, e, fun hp => ?_, fun s hl hs R' k' => ?_⟩
    · simp [isPush, hop] at hp
    · simp only [Op.operands] at hl
      have e1 := hl m (by simp)
      have e2 := hl i (by simp)
      have e3 := hl y (by simp)
      simp only [astep, hop, amapUpdate, h1, h2, e1, e2, e3, hs, h3, if_pos h4, h5, h6, upd_eq]
  | _ => simp [hop] at he
end
end Go.Proofs.AM
