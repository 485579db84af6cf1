/- Operations of two states. -/
import Derived.Test.YtefekolpfklhdaaAmA19
set_option maxRecDepth 2000
set_option linter.unusedVariables false
set_option linter.unusedSimpArgs false
namespace Go.Proofs.AM
open Go Go.RowKit

/-- Two states say the same of what an operation looks at. -/
def Like (o : Oper) (r s : AS) : Prop := ∀ x ∈ o.op.operands, s.ev x = r.ev x

section
variable {P : Program} {r s : AS} {o : Oper}

theorem map_ev {l : List Operand} (h : ∀ x ∈ l, s.ev x = r.ev x) : l.map s.ev = l.map r.ev := List.map_congr_left h

theorem abound_like {d : Int} {x : Option Operand} (h : ∀ y ∈ x.toArray, s.ev y = r.ev y) : abound s d x = abound r d x := by
  cases x with
  | none => rfl
  | some y => simp only [abound]; rw [h y (by simp)]

theorem aval_two (hev : Like o r s) (hs : Sub r.heap s.heap) : Two (fun _ k => aval P r o k) (fun _ k => aval P s o k) := by
  intro R k x e
  dsimp only at e ⊢
  unfold aval at e ⊢
  unfold Like at hev
  cases hop : o.op with
  | move y =>
    simp only [hop, Op.operands] at e hev ⊢
    rw [hev y (by simp)]
    exact ⟨_, e, fun _ _ => rfl⟩
  | assign y =>
    simp only [hop, Op.operands] at e hev ⊢
    rw [hev y (by simp)]
    exact ⟨_, e, fun _ _ => rfl⟩
  | pick c y z =>
    simp only [hop, Op.operands] at e hev ⊢
    rw [hev c (by simp), hev y (by simp), hev z (by simp)]
    generalize r.ev c = u at e ⊢
    generalize r.ev y = v at e ⊢
    generalize r.ev z = t at e ⊢
    split at e
    · rename_i b f
      split at e
      · exact ⟨_, e, fun _ _ => rfl⟩
      · cases b
        · exact ⟨t, e, fun _ _ => by first | rfl | (split <;> rfl)⟩
        · exact ⟨v, e, fun _ _ => by first | rfl | (split <;> rfl)⟩
    · simp at e
  | load t y =>
    simp only [hop, Op.operands] at e hev ⊢
    rw [hev y (by simp)]
    generalize r.ev y = u at e ⊢
    split at e
    · exact aload_two hs R k x e
    · simp at e
  | nilCheck y =>
    simp only [hop, Op.operands] at e hev ⊢
    rw [hev y (by simp)]
    generalize r.ev y = u at e ⊢
    split at e
    · exact ⟨_, e, fun _ _ => rfl⟩
    · exact ⟨_, e, fun _ _ => rfl⟩
    · exact ⟨_, e, fun _ _ => rfl⟩
    · exact ⟨_, e, fun _ _ => rfl⟩
    · simp at e
  | binOp op t y z t' =>
    simp only [hop, Op.operands] at e hev ⊢
    rw [hev y (by simp), hev z (by simp)]
    generalize r.ev y = u at e ⊢
    generalize r.ev z = v at e ⊢
    split at e
    · exact abin_two R k x e
    · split at e
      · simp at e
      rename_i hgd
      split at e
      · split at e
        · exact ⟨_, e, fun _ _ => if_neg hgd⟩
        · simp at e
      · split at e
        · exact ⟨_, e, fun _ _ => if_neg hgd⟩
        · simp at e
      · simp at e
    · split at e
      · rename_i b hb
        split at e
        · exact ⟨_, e, fun _ _ => by simp only [hb]⟩
        · exact ⟨_, e, fun _ _ => by simp only [hb]⟩
        · simp at e
      · simp at e
    · simp at e
  | unOp op t y =>
    simp only [hop, Op.operands] at e hev ⊢
    rw [hev y (by simp)]
    generalize r.ev y = u at e ⊢
    split at e
    · exact ⟨_, e, fun _ _ => rfl⟩
    · exact ⟨_, e, fun _ _ => rfl⟩
    · simp at e
  | convert t t' y =>
    simp only [hop, Op.operands] at e hev ⊢
    rw [hev y (by simp)]
    generalize r.ev y = u at e ⊢
    split at e
    · exact ⟨_, e, fun _ _ => rfl⟩
    · simp at e
  | makeFunc f first captured =>
    have hf : ∃ g, f = .func g := by
      cases f with
      | func g => exact ⟨g, rfl⟩
      | _ => simp [hop] at e
    obtain ⟨f, rfl⟩ := hf
    simp only [hop, Op.operands] at e hev ⊢
    have hc : captured.toList.map s.ev = captured.toList.map r.ev := map_ev fun y hy => hev y (by simp [Array.mem_toList_iff.1 hy])
    rw [hc]
    generalize captured.toList.map r.ev = u at e ⊢
    split at e
    · exact ⟨_, e, fun _ _ => rfl⟩
    · simp at e
  | extract y i =>
    simp only [hop, Op.operands] at e hev ⊢
    rw [hev y (by simp)]
    generalize r.ev y = u at e ⊢
    split at e
    · split at e
      · split at e
        · exact ⟨_, e, fun _ _ => rfl⟩
        · simp at e
      · simp at e
    · simp at e
  | fieldAddr t y i =>
    simp only [hop, Op.operands] at e hev ⊢
    rw [hev y (by simp)]
    generalize r.ev y = u at e ⊢
    split at e
    · exact afieldAddr_two R k x e
    · simp at e
  | field t y i =>
    simp only [hop, Op.operands] at e hev ⊢
    rw [hev y (by simp)]
    generalize r.ev y = u at e ⊢
    split at e
    · exact cut_two R k x e
    · simp at e
  | indexAddr t y i =>
    simp only [hop, Op.operands] at e hev ⊢
    rw [hev y (by simp), hev i (by simp)]
    generalize r.ev y = u at e ⊢
    generalize r.ev i = v at e ⊢
    split at e
    · exact aindexAddr_two hs R k x e
    · simp at e
  | slice t y lo hi mx =>
    cases mx with
    | some _ => simp [hop] at e
    | none =>
      simp only [hop, Op.operands] at e hev ⊢
      rw [hev y (by simp)]
      generalize r.ev y = u at e ⊢
      split at e
      · split at e
        · rename_i n z h1 h2
          rw [alen_two hs h1, asz_two hs h2]
          dsimp only
          rw [abound_like (r := r) (fun v hv => hev v (by simp at hv ⊢; simp [hv])), abound_like (r := r) (fun v hv => hev v (by simp at hv ⊢; simp [hv]))]
          split at e
          · exact szOk_two aslice_two R k x e
          · simp at e
        · simp at e
      · simp at e
  | build t parts =>
    simp only [hop, Op.operands] at e hev ⊢
    have hc : (parts.toList.map fun p => (p.1, s.ev p.2)) = parts.toList.map fun p => (p.1, r.ev p.2) := List.map_congr_left fun p hp => by
      rw [hev p.2 (by simp only [List.mem_toArray, List.mem_map]; exact ⟨p, hp, rfl⟩)]
    have hc' : (parts.toList.map fun (i, x) => (i, s.ev x)) = parts.toList.map fun (i, x) => (i, r.ev x) := hc
    rw [hc']
    generalize (parts.toList.map fun (i, x) => (i, r.ev x)) = u at e ⊢
    split at e
    · split at e
      · exact ⟨_, e, fun _ _ => rfl⟩
      · simp at e
    · simp at e
  | call c =>
    simp only [hop, Op.operands, Call.operands] at e hev ⊢
    have hc : c.args.toList.map s.ev = c.args.toList.map r.ev := map_ev fun y hy => hev y (by simp [Array.mem_toList_iff.1 hy])
    have hc1 : ∀ y ∈ c.args.toList, s.ev y = r.ev y := fun y hy => hev y (by simp [Array.mem_toList_iff.1 hy])
    unfold abuiltin at e ⊢
    rw [hc]
    generalize c.args.toList.map r.ev = u at e ⊢
    generalize c.args.toList = l at e hc1 ⊢
    split at e
    · split at e
      · rename_i y t _
        rw [hc1 y (by simp)]
        generalize r.ev y = v at e ⊢
        split at e
        · split at e
          · rename_i n hn
            rw [alen_two hs hn]
            exact ⟨_, e, fun _ _ => rfl⟩
          · simp at e
        · rename_i l _
          split at e
          · rename_i hu hh
            have hx : hat s.heap l = hat r.heap l := (hs l).resolve_left (by rw [hh]; simp)
            rw [hx]
            exact ⟨_, e, fun _ _ => by simp only [hu, hh]⟩
          · simp at e
        · simp at e
      · simp at e
    · split at e
      · exact ⟨_, e, fun _ _ => rfl⟩
      · simp at e
    · split at e
      · exact ⟨_, e, fun _ _ => rfl⟩
      · simp at e
    · simp at e
  | makeInterface t y =>
    simp only [hop, Op.operands] at e hev ⊢
    rw [hev y (by simp)]
    generalize r.ev y = u at e ⊢
    split at e
    · simp at e
    · rename_i d av hne hd
      split at e
      · simp at e
      · refine ⟨_, e, fun _ _ => ?_⟩
        rfl
    · simp at e
  | _ => simp [hop] at e
end
end Go.Proofs.AM
