/- A step says the same wherever its operands and what it looks at are the same. -/
import Derived.Test.YtefekolpfklhdaaAmA18
set_option maxRecDepth 2000
set_option linter.unusedVariables false
set_option linter.unusedSimpArgs false
namespace Go.Proofs.AM
open Go Go.RowKit

/-- Whatever the one comes to, the other comes to as well. -/
def Two {α : Type} (f f' : (R : Type) → (α → Option R) → Option R) : Prop :=
  ∀ (R : Type) (k : α → Option R) (x : R), f R k = some x → ∃ t, k t = some x ∧ ∀ (R' : Type) (k' : α → Option R'), f' R' k' = k' t

def Sub (h h' : Heap) : Prop := ∀ l, hat h l = .dead ∨ hat h' l = hat h l

theorem Sub.refl (h : Heap) : Sub h h := fun _ => .inr rfl
theorem Sub.app (h δ : Heap) : Sub h (h ++ δ) := fun l => by
  unfold hat
  by_cases hl : l < h.length
  · right; rw [List.getElem?_append_left hl]
  · left; rw [List.getElem?_eq_none (by omega)]
theorem Sub.nil (h : Heap) : Sub [] h := fun l => .inl rfl

section
variable {P : Program} {h h' : Heap}

theorem two_ret {α : Type} (t : α) : Two (fun _ k => k t) (fun _ k => k t) := fun _ k x e => ⟨t, e, fun _ _ => rfl⟩

theorem cut_two {t : TypeId} {cs : List AV} {off : Nat} : Two (fun _ k => cut P t cs off k) (fun _ k => cut P t cs off k) := by
  intro R k x e
  dsimp only at e ⊢
  unfold cut at e ⊢
  split at e
  · rename_i i hu hi
    dsimp only at e ⊢
    split at e
    · rename_i hc
      split at e
      · rename_i tv hs
        refine ⟨tv, e, fun R' k' => ?_⟩
        first | rfl | rw [if_pos hc, hs] | rw [if_pos hc]
      · simp at e
    · simp at e
  · simp at e

theorem gd_pos {R : Type} {c : Prop} [Decidable c] {y : Option R} (h : c) : gd c y = y := if_pos h

theorem aload_two (hs : Sub h h') {t : TypeId} {a : AV} : Two (fun _ k => aload P h t a k) (fun _ k => aload P h' t a k) := by
  intro R k x e
  dsimp only at e ⊢
  cases a with
  | ptr l off =>
    simp only [aload] at e ⊢
    rcases hs l with hd | he
    · simp [hd] at e
    rw [he]
    split at e
    · exact cut_two R k x e
    · simp at e
  | ro q y off fr => exact cut_two R k x e
  | dat q y fr =>
    cases q with
    | rp q => exact cut_two R k x e
    | _ => simp [aload] at e
  | vp l i off =>
    simp only [aload] at e ⊢
    rcases hs l with hd | he
    · simp [hd] at e
    rw [he]
    split at e
    · obtain ⟨hg, e⟩ := gd_some e
      simp only [gd_pos hg]
      exact cut_two R k x e
    · simp at e
  | _ => simp [aload] at e

theorem szOk_two {e : TypeId} {n : Nat} {f f' : (R : Type) → (TV → Option R) → Option R} (hf : Two f f') : Two (fun R k => szOk P e n (f R k)) (fun R k => szOk P e n (f' R k)) := by
  intro R k x e
  dsimp only at e ⊢
  unfold szOk at e ⊢
  split at e
  · split at e
    · rename_i hs
      simp only [hs, if_true]
      exact hf R k x e
    · simp at e
  · simp at e

theorem gd_two {α : Type} {c : Prop} [Decidable c] {f f' : (R : Type) → (α → Option R) → Option R} (hf : Two f f') : Two (fun R k => gd c (f R k)) (fun R k => gd c (f' R k)) := by
  intro R k x e
  obtain ⟨hc, e⟩ := gd_some e
  simp only [gd_pos hc]
  exact hf R k x e

theorem abin_two {op : BinOp} {kx ky : IntKind} {m n : Int} : Two (fun _ k => abin op kx m ky n k) (fun _ k => abin op kx m ky n k) := by
  intro R k x e
  dsimp only at e ⊢
  by_cases hk : kx = ky
  · by_cases h0 : n = 0
    · cases op <;> simp only [abin, hk, h0, if_true] at e ⊢ <;> first
        | exact ⟨_, e, fun _ _ => rfl⟩
        | (obtain ⟨hc, e⟩ := gd_some e
           exact ⟨_, e, fun _ _ => gd_pos hc⟩)
        | simp at e
    · cases op <;> simp only [abin, hk, h0, if_true, if_false] at e ⊢ <;> first
        | exact ⟨_, e, fun _ _ => rfl⟩
        | (obtain ⟨hc, e⟩ := gd_some e
           exact ⟨_, e, fun _ _ => gd_pos hc⟩)
        | simp at e
  · cases op <;> simp only [abin, hk, if_false] at e ⊢ <;> first
        | exact ⟨_, e, fun _ _ => rfl⟩
        | (obtain ⟨hc, e⟩ := gd_some e
           exact ⟨_, e, fun _ _ => gd_pos hc⟩)
        | simp at e

theorem afieldAddr_two {f : Field} {a : AV} : Two (fun _ k => afieldAddr P f a k) (fun _ k => afieldAddr P f a k) := by
  intro R k x e
  dsimp only at e ⊢
  unfold afieldAddr at e ⊢
  split at e
  · simp at e
  rename_i hc
  simp only [hc, if_false]
  split at e
  · exact ⟨_, e, fun _ _ => rfl⟩
  · exact ⟨_, e, fun _ _ => rfl⟩
  · exact ⟨_, e, fun _ _ => rfl⟩
  · exact ⟨_, e, fun _ _ => rfl⟩
  · simp at e

theorem aindexAddr_two (hs : Sub h h') {t : TypeId} {a : AV} {i : Int} : Two (fun _ k => aindexAddr P h t a i k) (fun _ k => aindexAddr P h' t a i k) := by
  intro R k x e
  dsimp only at e ⊢
  cases a with
  | dat q y fr =>
    cases q with
    | sl q => exact szOk_two (gd_two (gd_two (two_ret _))) R k x e
    | _ => simp [aindexAddr] at e
  | vf l =>
    simp only [aindexAddr] at e ⊢
    rcases hs l with hd | he
    · simp [hd] at e
    rw [he]
    split at e
    · exact szOk_two (gd_two (gd_two (two_ret _))) R k x e
    · simp at e
  | vw l off len =>
    simp only [aindexAddr] at e ⊢
    rcases hs l with hd | he
    · simp [hd] at e
    rw [he]
    split at e
    · exact szOk_two (gd_two (gd_two (two_ret _))) R k x e
    · simp at e
  | _ => simp [aindexAddr] at e

theorem alen_two (hs : Sub h h') {a : AV} {n : Int} (e : alen h a = some n) : alen h' a = some n := by
  unfold alen at e ⊢
  split at e
  · exact e
  · exact e
  · rename_i l
    rcases hs l with hd | he
    · simp [hd] at e
    · rw [he]; exact e
  · exact e
  · simp at e

theorem asz_two (hs : Sub h h') {a : AV} {n : Nat} (e : asz h a = some n) : asz h' a = some n := by
  unfold asz at e ⊢
  split at e
  · exact e
  · rename_i l
    rcases hs l with hd | he
    · simp [hd] at e
    · rw [he]; exact e
  · rename_i l _ _
    rcases hs l with hd | he
    · simp [hd] at e
    · rw [he]; exact e
  · simp at e

theorem aslice_two {a : AV} {lo hi n : Int} : Two (fun _ k => aslice h a lo hi n k) (fun _ k => aslice h' a lo hi n k) := by
  refine gd_two (gd_two (gd_two ?_))
  intro R k x e
  dsimp only at e ⊢
  split at e
  · exact ⟨_, e, fun _ _ => rfl⟩
  · exact ⟨_, e, fun _ _ => rfl⟩
  · exact ⟨_, e, fun _ _ => rfl⟩
  · simp at e

theorem toD_two (hs : Sub h h') {k : K} {a : AV} {p : k.den × Bool} (e : AV.toD k (a.bor h) = some p) : AV.toD k (a.bor h') = some p := by
  cases a with
  | vf l =>
    simp only [AV.bor] at e ⊢
    rcases hs l with hd | he
    · simp [hd, AV.toD] at e
    rw [he]; exact e
  | vw l _ _ =>
    simp only [AV.bor] at e ⊢
    rcases hs l with hd | he
    · simp [hd, AV.toD] at e
    rw [he]; exact e
  | _ => exact e

theorem ofs_two (hs : Sub h h') (B : Bool) : ∀ (k : K) (l : List AV) (p : k.den × Bool × List AV), K.ofs h B k l = some p → K.ofs h' B k l = some p := by
  have cell : ∀ (k : K) (l : List AV) (p : k.den × Bool × List AV),
      (match l with
        | a :: l => match AV.toD k (if B then a.bor h else a) with
          | some (x, f) => some (x, f, l)
          | none => none
        | [] => none) = some p →
      (match l with
        | a :: l => match AV.toD k (if B then a.bor h' else a) with
          | some (x, f) => some (x, f, l)
          | none => none
        | [] => none) = some p := by
    intro k l p e
    cases l with
    | nil => simp at e
    | cons a l =>
      dsimp only at e ⊢
      cases B
      · exact e
      · simp only [if_true] at e ⊢
        split at e
        · rename_i y f hy
          rw [toD_two hs hy]; exact e
        · simp at e
  intro k
  induction k with
  | pair a b iha ihb =>
    intro l p e
    unfold K.ofs at e ⊢
    split at e
    · rename_i x f l1 h1
      rw [iha _ _ h1]
      dsimp only
      split at e
      · rename_i y g l2 h2
        rw [ihb _ _ h2]
        exact e
      · simp at e
    · simp at e
  | unit => intro l p e; exact e
  | rp k ih =>
    intro l p e
    cases l with
    | nil => simp [K.ofs] at e
    | cons a l =>
      cases a with
      | ptr m off =>
        simp only [K.ofs] at e ⊢
        rcases hs m with hd | he
        · cases B <;> simp [hd] at e
        rw [he]
        cases B
        · simp at e
        · cases hm : hat h m with
          | box T cs =>
            simp only [hm] at e ⊢
            split at e
            · rename_i x f l2 hx
              rw [ih _ _ hx]; exact e
            · simp at e
          | _ => simp [hm] at e
      | _ => exact e
  | int k => intro l p e; exact cell _ l p (by cases l <;> exact e) |> fun h => by cases l <;> exact h
  | bool => intro l p e; exact cell _ l p (by cases l <;> exact e) |> fun h => by cases l <;> exact h
  | str => intro l p e; exact cell _ l p (by cases l <;> exact e) |> fun h => by cases l <;> exact h
  | sl k _ => intro l p e; exact cell _ l p (by cases l <;> exact e) |> fun h => by cases l <;> exact h

theorem of_two (hs : Sub h h') {B : Bool} {k : K} {l : List AV} {p : k.den × Bool} (e : K.of h B k l = some p) : K.of h' B k l = some p := by
  unfold K.of at e ⊢
  split at e
  · rename_i x f hx
    rw [ofs_two hs B k l _ hx]; exact e
  · simp at e

theorem adec_two (hs : Sub h h') {B : Bool} : ∀ (ps : List (Bool × K)) (ts : List TV) (p : PDen ps × Bool), adec h B ps ts = some p → adec h' B ps ts = some p
  | [], [], p, e => e
  | [], _ :: _, p, e => by simp [adec] at e
  | _ :: _, [], p, e => by simp [adec] at e
  | (b, q) :: ps, t :: ts, p, e => by
    unfold adec at e ⊢
    cases b <;> cases t <;> dsimp only at e ⊢ <;> first
      | (split at e
         · rename_i x f y g h1 h2
           rw [adec_two hs ps ts _ h2, of_two hs h1]
           exact e
         · simp at e)
      | simp at e

theorem acall_two {Γ : Env} {r s : AS} (hs : Sub r.heap s.heap) {f : FuncId} {args : List TV} : Two (fun _ k => acall Γ r f args k) (fun _ k => acall Γ s f args k) := by
  intro R k x e
  dsimp only at e ⊢
  unfold acall at e ⊢
  split at e
  · simp at e
  rename_i c hc
  split at e
  · simp at e
  rename_i y fr hd
  simp only [adec_two hs _ _ _ hd]
  cases hm : c.model y with
  | none => simp [hm] at e
  | some z =>
    simp only [hm, Option.bind_some] at e ⊢
    split at e
    · rename_i tv ht
      exact ⟨tv, e, fun _ _ => by first | rfl | rw [ht]⟩
    · simp at e
end
end Go.Proofs.AM
