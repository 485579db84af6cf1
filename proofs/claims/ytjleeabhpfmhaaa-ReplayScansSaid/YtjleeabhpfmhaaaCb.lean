/- What the functions of this claim compute, each shown by the kernel, and what that comes to, with no program in sight. No condition. -/
import Derived.Test.YtjleeabhpfmhaaaCa
import Derived.Test.YtjleeabhpfmhaaaAmd
set_option maxRecDepth 2000
set_option linter.unusedVariables false
set_option linter.unusedSimpArgs false
section
namespace Go.Proofs.Ytjleeabhpfmhaaa
open Go Go.Proofs.AM

theorem m61_ok (b : List Int) (n k : Nat) (hk : k ≤ 8) (hb : b.length ≤ 1000000) : m61 (b, ((n : Int), ((k : Int), ()))) = some (b ++ be n k) := by
  apply ok_eq
  unfold m61
  dsimp only
  refine Ok.bind (S := fun r => r = b ++ be n k) ?_ (fun r hr => Ok.some hr)
  have e0 : IntKind.wrap .i64 ((k : Int) - 1) = (k : Int) - 1 := wrap64 (by omega) (by omega)
  refine Ok.loop k (fun i x => ∃ c, x = (c, (k : Int) - 1 - (i : Int)) ∧ c ++ be n (k - i) = b ++ be n k ∧ c.length = b.length + i) ⟨b, by rw [e0]; simp, rfl, rfl⟩ ?_
  rintro i x hi ⟨c, rfl, hc, hl⟩
  refine Ok.cond (fun h => ?_) (fun h => ?_)
  rotate_left
  · simp only at h
    obtain rfl : i = k := by omega
    refine Ok.inr ?_
    have : i - i = 0 := by omega
    rw [this] at hc
    rw [← hc]; simp [be]
  simp only at h
  obtain ⟨m, hm⟩ : ∃ m, k - i = m + 1 := ⟨k - i - 1, by omega⟩
  have hk1 : (k : Int) - 1 - (i : Int) = (m : Int) := by omega
  have e8 : IntKind.wrap .i64 ((8 : Int) * (m : Int)) = ((8 * m : Nat) : Int) := by rw [wrap64 (by omega) (by omega)]; push_cast; rfl
  rw [hk1, e8, shr64 _ _ (by omega), wrap8]
  simp only [List.length_cons, List.length_nil]
  refine Ok.gd (by omega) (Ok.gd (by omega) (Ok.gd (by omega) (Ok.inl ⟨by omega, c ++ [((n / 2 ^ (8 * m) % 256 : Nat) : Int)], ?_, ?_, by simp; omega⟩)))
  · rw [wrap64 (by omega) (by omega)]
    refine Prod.ext rfl ?_
    show (m : Int) - 1 = (k : Int) - 1 - ((i + 1 : Nat) : Int)
    omega
  · rw [← hc, hm, show k - (i + 1) = m by omega, be, List.append_assoc]; rfl

theorem m35_ok (b : List Int) (hb : Bytes b) (k : Nat) (hk : k ≤ 8) (hl : k ≤ b.length) : m35 (b, ((k : Int), ())) = some (((val (b.take k) : Nat) : Int), (b.drop k, ())) := by
  apply ok_eq
  unfold m35
  dsimp only
  have e1 : List.take (Int.toNat (k : Int) - Int.toNat 0) (List.drop (Int.toNat 0) b) = b.take k := rfl
  have e2 : List.take (Int.toNat ((b.length : Nat) : Int) - Int.toNat (k : Int)) (List.drop (Int.toNat (k : Int)) b) = b.drop k := by
    rw [Int.toNat_natCast, Int.toNat_natCast]
    exact List.take_of_length_le (by simp)
  simp only [e1, e2]
  have hlen : (b.take k).length = k := by rw [List.length_take]; omega
  have hbt := hb.take k
  refine Ok.gd (by omega) (Ok.gd (by omega) (Ok.bind (S := fun r => r = ((val (b.take k) : Nat) : Int)) ?_ (fun r hr => Ok.gd (by omega) (Ok.gd (by omega) (Ok.gd (by omega) (Ok.some (by rw [hr])))))))
  generalize b.take k = l at *
  refine Ok.loop k (fun i x => x = (((val (l.take i) : Nat) : Int), (i : Int))) rfl ?_
  rintro i x hi rfl
  refine Ok.cond (fun h => ?_) (fun h => ?_)
  rotate_left
  · simp only at h
    obtain rfl : i = k := by omega
    refine Ok.inr ?_
    rw [List.take_of_length_le (by omega)]
  simp only at h
  refine Ok.gd (by omega) (Ok.gd (by omega) (Ok.inl ⟨by omega, ?_⟩))
  simp only [Int.toNat_natCast]
  have hi' : i < l.length := by omega
  obtain ⟨g0, g1⟩ := hbt _ (getD_mem (z := 0) hi')
  obtain ⟨m, hm⟩ : ∃ m : Nat, l.getD i 0 = m := ⟨(l.getD i 0).toNat, by omega⟩
  have hv := val_lt (l.take i) (hbt.take i)
  have hv2 := val_lt (l.take (i + 1)) (hbt.take (i + 1))
  have hs := take_snoc l i hi' 0
  rw [hs, val_snoc, hm, Int.toNat_natCast] at hv2
  have hp : 2 ^ (8 * (l.take i ++ [(m : Int)]).length) ≤ 2 ^ 64 := Nat.pow_le_pow_right (by omega) (by simp; omega)
  rw [hm, wrapU64 (n := (m : Int)) (by omega) (by omega), ioru8 _ _ (by omega) (by omega), hs, val_snoc, hm, Int.toNat_natCast, wsucc (by omega)]

theorem m60_ok (b : List Int) (n : Nat) (h : b.length ≤ n) (hn : n ≤ 1000000) : m60 (b, ((n : Int), ())) = some (b ++ List.replicate (n - b.length) 0) := by
  unfold m60
  have e : IntKind.wrap .i64 ((n : Int) - ((b.length : Nat) : Int)) = ((n - b.length : Nat) : Int) := by rw [wrap64 (by omega) (by omega)]; omega
  simp only [e, Int.toNat_natCast]
  rw [gd_pos (by omega), gd_pos (by simp; omega), gd_pos (by simp; omega)]

theorem m50_ok (b : List Int) (n : Nat) (h : b.length ≤ n) (hn : n ≤ 1000000) : m50 (b, ((n : Int), ())) = some (b ++ List.replicate (n - b.length) 0) := by
  apply ok_eq
  unfold m50
  dsimp only
  refine Ok.bind (S := fun r => r = b ++ List.replicate (n - b.length) 0) ?_ (fun r hr => Ok.some hr)
  refine Ok.loop (n - b.length) (fun i x => x = b ++ List.replicate i 0) (by simp) ?_
  rintro i x hi rfl
  simp only [List.length_append, List.length_replicate, List.length_cons, List.length_nil]
  refine Ok.cond (fun h => ?_) (fun h => ?_)
  · refine Ok.gd (by omega) (Ok.gd (by omega) (Ok.inl ⟨by omega, ?_⟩))
    rw [List.append_assoc, List.replicate_succ']
  · obtain rfl : i = n - b.length := by omega
    exact Ok.inr rfl

def zb (x : Int) : Nat → Nat
  | 0 => 0
  | j + 1 => if iand .u8 (ishr .u8 x (j : Int)) 1 = 0 then zb x j + 1 else zb x j

def Zn (l : List Int) : Nat → Nat
  | 0 => 0
  | i + 1 => Zn l i + zb (l.getD i 0) 8

theorem zb_le (x : Int) : ∀ j, zb x j ≤ j
  | 0 => Nat.le_refl _
  | j + 1 => by unfold zb; have := zb_le x j; split <;> omega

theorem Zn_le (l : List Int) : ∀ i, Zn l i ≤ 8 * i
  | 0 => Nat.le_refl _
  | i + 1 => by unfold Zn; have := Zn_le l i; have := zb_le (l.getD i 0) 8; omega

theorem m92_eq (l : List Int) (hl : l.length ≤ 2000000) : m92 (l, ()) = some (((Zn l l.length : Nat) : Int), ()) := by
  apply ok_eq
  unfold m92
  dsimp only
  refine Ok.bind (S := fun r => r = ((Zn l l.length : Nat) : Int)) ?_ (fun r hr => Ok.some (by rw [hr]))
  refine Ok.loop l.length (fun i x => x = (((Zn l i : Nat) : Int), (i : Int))) rfl ?_
  rintro i x hi rfl
  have hz := Zn_le l i
  refine Ok.cond (fun hc => ?_) (fun hc => ?_)
  rotate_left
  · simp only at hc
    obtain rfl : i = l.length := by omega
    exact Ok.inr rfl
  simp only at hc
  refine Ok.gd (by simp only; omega) (Ok.gd hc (Ok.bind (S := fun r => r = ((Zn l i + zb (l.getD i 0) 8 : Nat) : Int)) ?_ (fun r hr => Ok.inl ⟨by omega, ?_⟩)))
  rotate_left
  · rw [hr, wsucc (by omega)]; rfl
  refine Ok.loop 8 (fun j x => x = (((Zn l i + zb (l.getD i 0) j : Nat) : Int), (j : Int))) rfl ?_
  rintro j x hj rfl
  have hb := zb_le (l.getD i 0) j
  refine Ok.cond (fun hc => ?_) (fun hc => ?_)
  rotate_left
  · simp only at hc
    obtain rfl : j = 8 := by omega
    exact Ok.inr rfl
  simp only at hc
  refine Ok.gd (by simp only; omega) (Ok.cond (fun e => Ok.inl ⟨by omega, ?_⟩) (fun e => Ok.inl ⟨by omega, ?_⟩))
  · simp only [Int.toNat_natCast] at e ⊢
    rw [wsucc (by omega), wsucc (by omega), zb, if_pos e]; rfl
  · simp only [Int.toNat_natCast] at e ⊢
    rw [wsucc (by omega), zb, if_neg e]

theorem m72_eq (l : List Int) (hl : l.length ≤ 2000000) : m72 (l, ()) = some (((Zn l l.length : Nat) : Int), ()) := by
  apply ok_eq
  unfold m72
  dsimp only
  refine Ok.bind (S := fun r => r = ((Zn l l.length : Nat) : Int)) ?_ (fun r hr => Ok.some (by rw [hr]))
  refine Ok.loop l.length (fun i x => x = (((Zn l i : Nat) : Int), (i : Int))) rfl ?_
  rintro i x hi rfl
  have hz := Zn_le l i
  refine Ok.cond (fun hc => ?_) (fun hc => ?_)
  rotate_left
  · simp only at hc
    obtain rfl : i = l.length := by omega
    exact Ok.inr rfl
  simp only at hc
  refine Ok.bind (S := fun r => r = ((Zn l i + zb (l.getD i 0) 8 : Nat) : Int)) ?_ (fun r hr => Ok.inl ⟨by omega, ?_⟩)
  rotate_left
  · rw [hr, wsucc (by omega)]; rfl
  refine Ok.loop 8 (fun j x => x = (((Zn l i + zb (l.getD i 0) j : Nat) : Int), (j : Int))) rfl ?_
  rintro j x hj rfl
  have hb := zb_le (l.getD i 0) j
  refine Ok.cond (fun hc => ?_) (fun hc => ?_)
  rotate_left
  · simp only at hc
    obtain rfl : j = 8 := by omega
    exact Ok.inr rfl
  simp only at hc
  have hwj : IntKind.wrap .u64 (j : Int) = (j : Int) := wrapU64 (by omega) (by omega)
  refine Ok.gd (by simp only; omega) (Ok.gd (by simp only; omega) (Ok.gd (by simp only [hwj]; omega) (Ok.cond (fun e => Ok.inl ⟨by omega, ?_⟩) (fun e => Ok.inl ⟨by omega, ?_⟩))))
  · simp only [Int.toNat_natCast, hwj] at e ⊢
    rw [wsucc (by omega), wsucc (by omega), zb, if_pos e]; rfl
  · simp only [Int.toNat_natCast, hwj] at e ⊢
    rw [wsucc (by omega), zb, if_neg e]

theorem shri (v k : Nat) (hk : k ≤ 64) : ishr .i64 (v : Int) (k : Int) = ((v / 2 ^ k : Nat) : Int) := by
  unfold ishr
  have hb : IntKind.i64.bits = 64 := rfl
  rw [hb, Int.toNat_natCast, Nat.min_eq_left hk]
  rw [Int.fdiv_eq_ediv_of_nonneg _ (by exact_mod_cast Nat.zero_le (2 ^ k)), Int.natCast_ediv]
  push_cast
  rfl

theorem four (z : Nat) : (IntKind.wrap .u8 (ishr .i64 (z : Int) 24)) :: (IntKind.wrap .u8 (ishr .i64 (z : Int) 16)) :: (IntKind.wrap .u8 (ishr .i64 (z : Int) 8)) :: (IntKind.wrap .u8 (z : Int)) :: ([] : List Int) = be z 4 := by
  have e24 := shri z 24 (by omega)
  have e16 := shri z 16 (by omega)
  have e8 := shri z 8 (by omega)
  have f24 : ((24 : Nat) : Int) = 24 := rfl
  have f16 : ((16 : Nat) : Int) = 16 := rfl
  have f8 : ((8 : Nat) : Int) = 8 := rfl
  rw [f24] at e24
  rw [f16] at e16
  rw [f8] at e8
  rw [e24, e16, e8, wrap8, wrap8, wrap8, wrap8]
  simp [be]

def sealed (l : List Int) : List Int := l ++ be (Zn l l.length) 4

theorem m80_ok (a b : List Int) (ha : a.length ≤ 2000000) (hb : b.length ≤ 2000000) : m80 ([a, b], ()) = some (a ++ b, ()) := by
  apply ok_eq
  unfold m80
  dsimp only
  have hw1 : IntKind.wrap .i64 ((0 : Int) + ((a.length : Nat) : Int)) = ((a.length : Nat) : Int) := by rw [wrap64 (by omega) (by omega)]; omega
  have hw2 : IntKind.wrap .i64 (((a.length : Nat) : Int) + ((b.length : Nat) : Int)) = ((a.length + b.length : Nat) : Int) := by rw [wrap64 (by omega) (by omega)]; push_cast; rfl
  refine Ok.bind (S := fun r => r = ((a.length + b.length : Nat) : Int)) ?_ (fun r hr => ?_)
  · refine Ok.loop 2 (fun i x => (i = 0 ∧ x = ((0 : Int), (0 : Int))) ∨ (i = 1 ∧ x = (((a.length : Nat) : Int), 1)) ∨ (i = 2 ∧ x = (((a.length + b.length : Nat) : Int), 2))) (.inl ⟨rfl, rfl⟩) ?_
    rintro i x hi (⟨rfl, rfl⟩ | ⟨rfl, rfl⟩ | ⟨rfl, rfl⟩)
    · refine Ok.cond (fun _ => Ok.gd (by simp) (Ok.gd (by simp) (Ok.cond (fun h => absurd h ?_) (fun _ => Ok.inl ⟨by omega, .inr (.inl ⟨rfl, ?_⟩)⟩)))) (fun h => absurd (by simp) h)
      · show ¬ IntKind.wrap .i64 ((0 : Int) + ((a.length : Nat) : Int)) < 0
        rw [hw1]; omega
      · show (IntKind.wrap .i64 ((0 : Int) + ((a.length : Nat) : Int)), _) = _
        rw [hw1]; rfl
    · refine Ok.cond (fun _ => Ok.gd (by simp) (Ok.gd (by simp) (Ok.cond (fun h => absurd h ?_) (fun _ => Ok.inl ⟨by omega, .inr (.inr ⟨rfl, ?_⟩)⟩)))) (fun h => absurd (by simp) h)
      · show ¬ IntKind.wrap .i64 (((a.length : Nat) : Int) + ((b.length : Nat) : Int)) < 0
        rw [hw2]; omega
      · show (IntKind.wrap .i64 (((a.length : Nat) : Int) + ((b.length : Nat) : Int)), _) = _
        rw [hw2]; rfl
    · exact Ok.cond (fun h => absurd h (by simp)) (fun _ => Ok.inr rfl)
  subst hr
  refine Ok.bind (S := fun _ => True) (Ok.gd (by omega) (Ok.gd (by omega) (Ok.gd (by omega) (Ok.some trivial)))) (fun r _ => ?_)
  refine Ok.bind (S := fun r => r = a ++ b) ?_ (fun r hr => Ok.some (by rw [hr]))
  refine Ok.loop 2 (fun i x => (i = 0 ∧ x = (([] : List Int), (0 : Int))) ∨ (i = 1 ∧ x = (a, 1)) ∨ (i = 2 ∧ x = (a ++ b, 2))) (.inl ⟨rfl, rfl⟩) ?_
  rintro i x hi (⟨rfl, rfl⟩ | ⟨rfl, rfl⟩ | ⟨rfl, rfl⟩)
  · refine Ok.cond (fun _ => Ok.gd (by simp) (Ok.gd (by simp) (Ok.gd ?_ (Ok.gd ?_ (Ok.inl ⟨by omega, .inr (.inl ⟨rfl, rfl⟩)⟩))))) (fun h => absurd (by simp) h)
    · show ((([] : List Int).length + a.length) * 1) ≤ 140737488355328
      simp; omega
    · show (([] : List Int).length + a.length) ≤ 140737488355328
      simp; omega
  · refine Ok.cond (fun _ => Ok.gd (by simp) (Ok.gd (by simp) (Ok.gd ?_ (Ok.gd ?_ (Ok.inl ⟨by omega, .inr (.inr ⟨rfl, rfl⟩)⟩))))) (fun h => absurd (by simp) h)
    · show ((a.length + b.length) * 1) ≤ 140737488355328
      omega
    · show (a.length + b.length) ≤ 140737488355328
      omega
  · exact Ok.cond (fun h => absurd h (by simp)) (fun _ => Ok.inr rfl)

theorem m81_ok (l : List Int) (hl : l.length ≤ 1048576) : m81 (l, ()) = some (be (Zn l l.length) 4, ()) := by
  unfold m81
  rw [m92_eq l (by omega)]
  simp only [Option.bind_some]
  rw [four]

theorem m59_ok (l : List Int) (hl : l.length ≤ 1048576) : m59 (l, ()) = some (sealed l, (0, ())) := by
  unfold m59
  have h : ¬ (((List.length l : Nat) : Int) > 1048576) := by omega
  simp only [decide_eq_false h, cond_false]
  rw [m81_ok l hl]
  simp only [Option.bind_some]
  rw [m80_ok _ _ (by omega) (by rw [be_len]; omega)]
  rfl

theorem m49_ok (l : List Int) (hl : l.length ≤ 1048576) : m49 (l, ()) = some (sealed l, (0, ())) := by
  unfold m49
  have h : ¬ (((List.length l : Nat) : Int) > 1048576) := by omega
  simp only [decide_eq_false h, cond_false]
  rw [m72_eq l (by omega)]
  simp only [Option.bind_some, List.nil_append, four, be_len, List.length_nil]
  rw [gd_pos (by omega), gd_pos (by omega), gd_pos (by omega), gd_pos (by omega)]
  rfl
end Go.Proofs.Ytjleeabhpfmhaaa
end

section
namespace Go.Proofs.Ytjleeabhpfmhaaa
open Go Go.Proofs.AM

theorem streq_iff (a b : ByteArray) : streq a b = true ↔ a = b := by
  obtain ⟨a⟩ := a
  obtain ⟨b⟩ := b
  show (a == b) = true ↔ _
  rw [beq_iff_eq]
  simp

theorem ofNums_inj {a b : List Int} (ha : Bytes a) (hb : Bytes b) : streq (strOfNums a) (strOfNums b) = true ↔ a = b := by
  constructor
  · intro h
    have h2 : strOfNums a = strOfNums b := (streq_iff _ _).1 h
    have h3 : (strOfNums a).data.toList = (strOfNums b).data.toList := by rw [h2]
    rw [strOfNums_data, strOfNums_data] at h3
    have hl : a.length = b.length := by have := congrArg List.length h3; simpa using this
    apply List.ext_getElem hl
    intro i i1 i2
    have h4 : (a.map fun n => UInt8.ofNat n.toNat)[i]'(by simpa using i1) = (b.map fun n => UInt8.ofNat n.toNat)[i]'(by simpa using i2) := by simp only [h3]
    rw [List.getElem_map, List.getElem_map] at h4
    have h5 := congrArg UInt8.toNat h4
    obtain ⟨a0, a1⟩ := ha _ (List.getElem_mem i1)
    obtain ⟨b0, b1⟩ := hb _ (List.getElem_mem i2)
    simp only [UInt8.toNat_ofNat'] at h5
    omega
  · rintro rfl; exact (streq_iff _ _).2 rfl

theorem ior64 (n a b : Nat) (hb : b < 2 ^ n) (h : 2 ^ n * a + b < 9223372036854775808) : ior .i64 ((2 ^ n * a : Nat) : Int) (b : Int) = ((2 ^ n * a + b : Nat) : Int) := by
  unfold ior
  have e1 : (BitVec.ofInt IntKind.i64.bits ((2 ^ n * a : Nat) : Int) ||| BitVec.ofInt IntKind.i64.bits (b : Int)).toNat = 2 ^ n * a + b := by
    show (BitVec.ofInt 64 ((2 ^ n * a : Nat) : Int) ||| BitVec.ofInt 64 (b : Int)).toNat = _
    rw [BitVec.toNat_or, BitVec.toNat_ofInt, BitVec.toNat_ofInt]
    rw [Nat.two_pow_add_eq_or_of_lt hb]
    congr 1
    · omega
    · omega
  rw [e1, wrap64 (by omega) (by omega)]

theorem num_eq {a b c d : Int} (a0 : 0 ≤ a ∧ a < 256) (b0 : 0 ≤ b ∧ b < 256) (c0 : 0 ≤ c ∧ c < 256) (d0 : 0 ≤ d ∧ d < 256) :
    ior .i64 (ior .i64 (ior .i64 (ishl .i64 (IntKind.wrap .i64 a) 24) (ishl .i64 (IntKind.wrap .i64 b) 16)) (ishl .i64 (IntKind.wrap .i64 c) 8)) (IntKind.wrap .i64 d) = ((val [a, b, c, d] : Nat) : Int) := by
  obtain ⟨a, rfl⟩ : ∃ n : Nat, a = n := ⟨a.toNat, by omega⟩
  obtain ⟨b, rfl⟩ : ∃ n : Nat, b = n := ⟨b.toNat, by omega⟩
  obtain ⟨c, rfl⟩ : ∃ n : Nat, c = n := ⟨c.toNat, by omega⟩
  obtain ⟨d, rfl⟩ : ∃ n : Nat, d = n := ⟨d.toNat, by omega⟩
  have sh : ∀ (x : Nat) (k : Nat) (p : Nat), p = 2 ^ k → x < 256 → k ≤ 24 → ishl .i64 (IntKind.wrap .i64 (x : Int)) (k : Int) = ((2 ^ k * x : Nat) : Int) := by
    intro x k p hp hx hk
    unfold ishl
    rw [wrap64 (n := (x : Int)) (by omega) (by omega)]
    have hb : IntKind.i64.bits = 64 := rfl
    rw [hb, Int.toNat_natCast, Nat.min_eq_left (by omega)]
    have hp2 : 2 ^ k ≤ 2 ^ 24 := Nat.pow_le_pow_right (by omega) hk
    have hm : 2 ^ k * x ≤ 2 ^ 24 * 255 := Nat.mul_le_mul hp2 (by omega)
    rw [show ((x : Int) * 2 ^ k) = ((2 ^ k * x : Nat) : Int) by rw [Nat.mul_comm]; push_cast; rfl]
    exact wrap64 (by omega) (by omega)
  have e24 := sh a 24 _ rfl (by omega) (by omega)
  have e16 := sh b 16 _ rfl (by omega) (by omega)
  have e8 := sh c 8 _ rfl (by omega) (by omega)
  have f24 : ((24 : Nat) : Int) = 24 := rfl
  have f16 : ((16 : Nat) : Int) = 16 := rfl
  have f8 : ((8 : Nat) : Int) = 8 := rfl
  rw [f24] at e24
  rw [f16] at e16
  rw [f8] at e8
  rw [e24, e16, e8, ior64 24 a (2 ^ 16 * b) (by omega) (by omega), show 2 ^ 24 * a + 2 ^ 16 * b = 2 ^ 16 * (256 * a + b) by omega, ior64 16 (256 * a + b) (2 ^ 8 * c) (by omega) (by omega),
    show 2 ^ 16 * (256 * a + b) + 2 ^ 8 * c = 2 ^ 8 * (65536 * a + 256 * b + c) by omega, wrap64 (n := (d : Int)) (by omega) (by omega), ior64 8 (65536 * a + 256 * b + c) d (by omega) (by omega)]
  have : val [(a : Int), (b : Int), (c : Int), (d : Int)] = 256 * (256 * (256 * (256 * 0 + a) + b) + c) + d := rfl
  rw [this]
  omega

def Seal (l : List Int) : Prop :=
  4 ≤ l.length ∧ l.length ≤ 1048580 ∧ (¬ ∀ i, i < l.length → l.getD i 0 = 255) ∧ val (l.drop (l.length - 4)) = Zn (l.take (l.length - 4)) (l.length - 4)

theorem m86_ok (l : List Int) (hl : l.length ≤ 140737488355328) : Ok (m86 (l, ())) (fun r => r.1 = true ↔ ∀ i, i < l.length → l.getD i 0 = 255) := by
  unfold m86
  dsimp only
  refine Ok.bind (S := fun r => (r = .inl () ∧ ∀ i, i < l.length → l.getD i 0 = 255) ∨ (r = .inr false ∧ ¬ ∀ i, i < l.length → l.getD i 0 = 255)) ?_ ?_
  · refine Ok.loop l.length (fun i x => x = (i : Int) ∧ ∀ j, j < i → l.getD j 0 = 255) ⟨rfl, fun j hj => by omega⟩ ?_
    rintro i x hi ⟨rfl, h⟩
    refine Ok.cond (fun hc => ?_) (fun hc => Ok.inr (.inl ⟨rfl, fun j hj => h j (by omega)⟩))
    refine Ok.gd (by omega) (Ok.gd hc (Ok.ncond (fun hne => Ok.inr (.inr ⟨rfl, fun hh => hne ?_⟩)) (fun he => Ok.inl ⟨by omega, wsucc (by omega), fun j hj => ?_⟩)))
    · rw [Int.toNat_natCast]; exact hh i (by omega)
    · rw [Int.toNat_natCast] at he
      by_cases e : j = i
      · subst e; exact he
      · exact h j (by omega)
  · rintro r (⟨rfl, h⟩ | ⟨rfl, h⟩)
    · exact Ok.some ⟨fun _ => h, fun _ => rfl⟩
    · exact Ok.some ⟨fun e => by simp at e, fun e => absurd e h⟩

theorem drop_four (l : List Int) (h : 4 ≤ l.length) : l.drop (l.length - 4) = [l.getD (l.length - 4) 0, l.getD (l.length - 4 + 1) 0, l.getD (l.length - 4 + 2) 0, l.getD (l.length - 4 + 3) 0] := by
  apply ext_getD
  · simp; omega
  · intro i hi
    have hi : i < 4 := by simp at hi; omega
    have e : (l.drop (l.length - 4)).getD i 0 = l.getD (l.length - 4 + i) 0 := by
      rw [List.getD_eq_getElem?_getD, List.getElem?_drop, ← List.getD_eq_getElem?_getD]
    rw [e]
    rcases i with _ | _ | _ | _ | i
    · rfl
    · rfl
    · rfl
    · rfl
    · omega

theorem m68_ok (l : List Int) (hb : Bytes l) (hl : l.length ≤ 140737488355328) : Ok (m68 (l, ())) (fun r => r.1 = 0 ↔ Seal l) := by
  unfold m68
  dsimp only
  refine Ok.cond (fun h0 => ?_) (fun h0 => ?_)
  rotate_left
  · refine Ok.cond (fun _ => Ok.some ⟨fun h => absurd h (by decide), fun h => ?_⟩) (fun h => absurd (by omega) h)
    have := h.1
    omega
  refine Ok.bind (m86_ok l hl) fun r hr => ?_
  refine Ok.condb (fun e => Ok.some ⟨fun h => absurd h (by decide), fun h => absurd (hr.1 e) h.2.2.1⟩) (fun e => ?_)
  have hna : ¬ ∀ i, i < l.length → l.getD i 0 = 255 := fun h => by have := hr.2 h; rw [e] at this; simp at this
  refine Ok.cond (fun h => Ok.some ⟨fun h => absurd h (by decide), fun hs => ?_⟩) (fun h4 => Ok.cond (fun h => Ok.some ⟨fun h => absurd h (by decide), fun hs => ?_⟩) (fun h5 => ?_))
  · have := hs.1; omega
  · have := hs.2.1; omega
  have h4' : 4 ≤ l.length := by omega
  have hw : IntKind.wrap .i64 (((l.length : Nat) : Int) - 4) = ((l.length - 4 : Nat) : Int) := by rw [wrap64 (by omega) (by omega)]; omega
  have hw1 : IntKind.wrap .i64 (((l.length - 4 : Nat) : Int) + 1) = ((l.length - 4 + 1 : Nat) : Int) := by rw [wrap64 (by omega) (by omega)]; omega
  have hw2 : IntKind.wrap .i64 (((l.length - 4 : Nat) : Int) + 2) = ((l.length - 4 + 2 : Nat) : Int) := by rw [wrap64 (by omega) (by omega)]; omega
  have hw3 : IntKind.wrap .i64 (((l.length - 4 : Nat) : Int) + 3) = ((l.length - 4 + 3 : Nat) : Int) := by rw [wrap64 (by omega) (by omega)]; omega
  simp only [hw, hw1, hw2, hw3]
  refine Ok.gd (by omega) (Ok.gd (by omega) (Ok.gd (by omega) (Ok.gd (by omega) (Ok.gd (by omega) (Ok.gd (by omega) (Ok.gd (by omega) (Ok.gd (by omega) (Ok.gd (by omega) (Ok.gd (by omega) ?_)))))))))
  simp only [Int.toNat_natCast]
  have ht : List.take (l.length - 4 - Int.toNat 0) (List.drop (Int.toNat 0) l) = l.take (l.length - 4) := rfl
  have htl : (l.take (l.length - 4)).length = l.length - 4 := by rw [List.length_take]; omega
  rw [ht, m72_eq _ (by omega), htl]
  simp only [Option.bind_some]
  have g : ∀ i, i < l.length → 0 ≤ l.getD i 0 ∧ l.getD i 0 < 256 := fun i hi => hb _ (getD_mem (by omega))
  have hn := num_eq (g (l.length - 4) (by omega)) (g (l.length - 4 + 1) (by omega)) (g (l.length - 4 + 2) (by omega)) (g (l.length - 4 + 3) (by omega))
  rw [← drop_four l h4'] at hn
  refine Ok.ncond (fun hne => Ok.some ⟨fun h => absurd h (by decide), fun hs => ?_⟩) (fun he => Ok.some ⟨fun _ => ⟨h4', by omega, hna, ?_⟩, fun _ => rfl⟩)
  · exact absurd (hn.trans (by rw [hs.2.2.2])) hne
  · have := hn.symm.trans he
    omega

open Classical in
theorem m42_ok (l : List Int) (hb : Bytes l) (hl : l.length ≤ 140737488355328) : Ok (m42 (l, ())) (fun r => if Seal l then r = (l.take (l.length - 4), (0, ())) else r.2.1 ≠ 0) := by
  unfold m42
  refine Ok.bind (m68_ok l hb hl) fun r hr => ?_
  refine Ok.ncond (fun h => Ok.some ?_) (fun h => ?_)
  · rw [if_neg (fun hs => h (hr.2 hs))]; exact h
  have hs := hr.1 h
  have h4 := hs.1
  have hw : IntKind.wrap .i64 (((l.length : Nat) : Int) - 4) = ((l.length - 4 : Nat) : Int) := by rw [wrap64 (by omega) (by omega)]; omega
  simp only [hw, Int.toNat_natCast]
  have ht : List.take (l.length - 4 - Int.toNat 0) (List.drop (Int.toNat 0) l) = l.take (l.length - 4) := rfl
  have htl : (l.take (l.length - 4)).length = l.length - 4 := by rw [List.length_take]; omega
  simp only [ht, htl, List.length_nil, List.nil_append]
  refine Ok.gd (by omega) (Ok.gd (by omega) (Ok.gd (by omega) (Ok.gd (by omega) (Ok.some ?_))))
  rw [if_pos hs]

def sup (s q : Nat) : List Int := be 1397508656 4 ++ be s 4 ++ be q 8 ++ List.replicate 236 0
def supF (s q : Nat) : List Int := sealed (sup s q)

theorem sup_len (s q : Nat) : (sup s q).length = 252 := by simp [sup, be_len]
theorem sup_bytes (s q : Nat) : Bytes (sup s q) := (((be_bytes _ _).app (be_bytes _ _)).app (be_bytes _ _)).app (Bytes.zeros _)
theorem sealed_len (l : List Int) : (sealed l).length = l.length + 4 := by simp [sealed, be_len]
theorem sealed_bytes {l : List Int} (h : Bytes l) : Bytes (sealed l) := h.app (be_bytes _ _)

theorem supF_seal (s q : Nat) : Seal (supF s q) := by
  have hl : (supF s q).length = 256 := by rw [supF, sealed_len, sup_len]
  have hz := Zn_le (sup s q) 252
  refine ⟨by omega, by omega, fun h => ?_, ?_⟩
  · have := h 0 (by omega)
    have e : (supF s q).getD 0 0 = 83 := rfl
    rw [e] at this
    simp at this
  · rw [hl]
    have e1 : (supF s q).drop 252 = be (Zn (sup s q) 252) 4 := by
      unfold supF sealed
      rw [sup_len, List.drop_append, List.drop_of_length_le (by rw [sup_len]; omega), sup_len]
      simp
    have e2 : (supF s q).take 252 = sup s q := by
      unfold supF sealed
      rw [List.take_append, sup_len, List.take_of_length_le (by rw [sup_len]; omega)]
      simp
    show val ((supF s q).drop 252) = Zn ((supF s q).take 252) 252
    rw [e1, e2, val_be (by omega)]

def okS (s q : Int) : Prop := 0 ≤ s ∧ s < 64 ∧ 1 ≤ q ∧ q ≤ 281474976710656
instance (s q : Int) : Decidable (okS s q) := by unfold okS; exact inferInstance

theorem m58_ok (q : Int) : m58 (q, ()) = some (decide (1 ≤ q ∧ q ≤ 281474976710656), ()) := by
  unfold m58
  dsimp only
  by_cases h : q ≥ 1
  · rw [decide_eq_true h, cond_true]
    have : decide (q ≤ 281474976710656) = decide (1 ≤ q ∧ q ≤ 281474976710656) := by
      apply decide_eq_decide.2; constructor
      · intro h2; exact ⟨h, h2⟩
      · intro h2; exact h2.2
    rw [this]
  · rw [decide_eq_false h, cond_false, decide_eq_false (fun h2 => h h2.1)]

theorem m36_ok (s q : Int) : m36 ((s, q), ()) = some (if okS s q then (supF s.toNat q.toNat, (0, ())) else ([], (1, ()))) := by
  apply ok_eq
  unfold m36
  dsimp only
  refine Ok.cond (fun h => Ok.some ?_) (fun h1 => Ok.cond (fun h => Ok.some ?_) (fun h2 => ?_))
  · rw [if_neg (fun h2 => by have := h2.1; omega)]
  · rw [if_neg (fun h2 => by have := h2.2.1; omega)]
  rw [m58_ok]
  simp only [Option.bind_some]
  refine Ok.ncond (fun h => Ok.some ?_) (fun h3 => ?_)
  · rw [if_neg (fun h2 => h ⟨h2.2.2.1, h2.2.2.2⟩)]
  have hok : okS s q := ⟨by omega, by omega, h3.1, h3.2⟩
  rw [if_pos hok]
  obtain ⟨s, rfl⟩ : ∃ n : Nat, s = n := ⟨s.toNat, by omega⟩
  obtain ⟨q, rfl⟩ : ∃ n : Nat, q = n := ⟨q.toNat, by omega⟩
  have a1 := m61_ok [] 1397508656 4 (by omega) (by simp)
  have a2 := m61_ok ([] ++ be 1397508656 4) s 4 (by omega) (by simp [be_len])
  have a3 := m61_ok ([] ++ be 1397508656 4 ++ be s 4) q 8 (by omega) (by simp [be_len])
  have a4 := m60_ok ([] ++ be 1397508656 4 ++ be s 4 ++ be q 8) 252 (by simp [be_len]) (by omega)
  have hsup : [] ++ be 1397508656 4 ++ be s 4 ++ be q 8 ++ List.replicate (252 - ([] ++ be 1397508656 4 ++ be s 4 ++ be q 8).length) 0 = sup s q := by
    simp [sup, be_len]
  rw [hsup] at a4
  have b1 : m61 ([], ((1397508656 : Int), ((4 : Int), ()))) = some ([] ++ be 1397508656 4) := a1
  have b2 : m61 ([] ++ be 1397508656 4, ((s : Int), ((4 : Int), ()))) = some ([] ++ be 1397508656 4 ++ be s 4) := a2
  have b3 : m61 ([] ++ be 1397508656 4 ++ be s 4, ((q : Int), ((8 : Int), ()))) = some ([] ++ be 1397508656 4 ++ be s 4 ++ be q 8) := a3
  have b4 : m60 ([] ++ be 1397508656 4 ++ be s 4 ++ be q 8, ((252 : Int), ())) = some (sup s q) := a4
  rw [wrapU64 (by omega) (by omega), wrapU64 (by omega) (by omega), b1]
  simp only [Option.bind_some]
  rw [b2]
  simp only [Option.bind_some]
  rw [b3]
  simp only [Option.bind_some]
  rw [b4]
  simp only [Option.bind_some]
  rw [m59_ok _ (by rw [sup_len]; omega)]
  exact Ok.some rfl

theorem wok3 : Wok [32, 32, 64] 16 := ⟨by decide, by decide, by decide, by decide⟩

theorem m28_ok (s q : Int) : m28 ((s, q), ()) = some (if okS s q then (supF s.toNat q.toNat, (0, ())) else ([], (1, ()))) := by
  apply ok_eq
  unfold m28
  dsimp only
  refine Ok.cond (fun h => Ok.some ?_) (fun h1 => Ok.cond (fun h => Ok.some ?_) (fun h2 => Ok.cond (fun h => Ok.some ?_) (fun h3 => Ok.cond (fun h => Ok.some ?_) (fun h4 => ?_))))
  · rw [if_neg (fun h2 => by have := h2.1; omega)]
  · rw [if_neg (fun h2 => by have := h2.2.1; omega)]
  · rw [if_neg (fun h2 => by have := h2.2.2.1; omega)]
  · rw [if_neg (fun h2 => by have := h2.2.2.2; omega)]
  have hok : okS s q := ⟨by omega, by omega, by omega, by omega⟩
  rw [if_pos hok]
  obtain ⟨s, rfl⟩ : ∃ n : Nat, s = n := ⟨s.toNat, by omega⟩
  obtain ⟨q, rfl⟩ : ∃ n : Nat, q = n := ⟨q.toNat, by omega⟩
  rw [wrapU64 (by omega) (by omega), wrapU64 (by omega) (by omega)]
  have a1 := m48_ok wok3 (fun i => [1397508656, s, q].getD i 0) (by
    intro i hi
    rcases i with _ | _ | _ | i
    · show 1397508656 < 2 ^ 32; decide
    · show s < 2 ^ 32; omega
    · show q < 2 ^ 64; omega
    · simp at hi; omega)
  have b1 : m48 ([32, 32, 64], ([1397508656, (s : Int), (q : Int)], ())) = some (be 1397508656 4 ++ (be s 4 ++ (be q 8 ++ [])), (0, ())) := a1
  have hl : (be 1397508656 4 ++ (be s 4 ++ (be q 8 ++ []))).length = 16 := by simp [be_len]
  have a2 := m50_ok (be 1397508656 4 ++ (be s 4 ++ (be q 8 ++ []))) 252 (by omega) (by omega)
  rw [hl] at a2
  have e : be 1397508656 4 ++ (be s 4 ++ (be q 8 ++ [])) ++ List.replicate (252 - 16) 0 = sup s q := by simp [sup]
  rw [e] at a2
  have b2 : m50 (be 1397508656 4 ++ (be s 4 ++ (be q 8 ++ [])), ((252 : Int), ())) = some (sup s q) := a2
  rw [b1]
  simp only [Option.bind_some]
  rw [b2]
  simp only [Option.bind_some]
  rw [m49_ok _ (by rw [sup_len]; omega)]
  exact Ok.some rfl

open Classical in
noncomputable def dsup (b : List Int) : (Int × Int) × (Int × Unit) :=
  if b.length = 256 ∧ okS (val ((b.drop 4).take 4)) (val ((b.drop 8).take 8)) ∧ supF (val ((b.drop 4).take 4)) (val ((b.drop 8).take 8)) = b then (((val ((b.drop 4).take 4) : Nat), (val ((b.drop 8).take 8) : Nat)), (0, ())) else ((0, 0), (170, ()))

theorem wrap_neg {n : Nat} (h : 9223372036854775808 ≤ n) (h2 : n < 18446744073709551616) : IntKind.wrap .i64 (n : Int) = (n : Int) - 18446744073709551616 := by
  have e1 : IntKind.bits .i64 = 64 := rfl
  have e2 : IntKind.signed .i64 = true := rfl
  simp only [IntKind.wrap, e1, e2, Bool.true_and, Nat.add_one_sub_one]
  split <;> rename_i h <;> simp at h <;> omega

theorem okS_wrap (s q : Nat) (hq : q < 18446744073709551616) : (okS (s : Int) (IntKind.wrap .i64 (q : Int)) ↔ okS (s : Int) (q : Int)) ∧ (okS (s : Int) (q : Int) → IntKind.wrap .i64 (q : Int) = q) := by
  by_cases h : q < 9223372036854775808
  · have e : IntKind.wrap .i64 (q : Int) = q := wrap64 (by omega) (by omega)
    rw [e]; exact ⟨Iff.rfl, fun _ => rfl⟩
  · have e := wrap_neg (show 9223372036854775808 ≤ q by omega) hq
    rw [e]
    refine ⟨⟨fun h2 => ?_, fun h2 => ?_⟩, fun h2 => ?_⟩
    · have := h2.2.2.1; omega
    · have := h2.2.2.2; omega
    · have := h2.2.2.2; omega

theorem val_lt' {l : List Int} (h : Bytes l) {k : Nat} (hl : l.length ≤ k) : val l < 2 ^ (8 * k) := Nat.lt_of_lt_of_le (val_lt l h) (Nat.pow_le_pow_right (by omega) (by omega))

theorem m23_ok (b : List Int) (hb : Bytes b) : m23 (b, ()) = some (dsup b) := by
  apply ok_eq
  unfold m23
  dsimp only
  refine Ok.ncond (fun h => Ok.some ?_) (fun h => ?_)
  · unfold dsup; rw [if_neg (fun h2 => h (by rw [h2.1]; rfl))]
  have hl : b.length = 256 := by omega
  have e4 : List.take (Int.toNat ((b.length : Nat) : Int) - Int.toNat 4) (List.drop (Int.toNat 4) b) = b.drop 4 := by
    rw [Int.toNat_natCast]
    exact List.take_of_length_le (by simp)
  refine Ok.gd (by omega) (Ok.gd (by omega) ?_)
  rw [e4]
  have a1 : m35 (b.drop 4, ((4 : Int), ())) = some (((val ((b.drop 4).take 4) : Nat) : Int), (b.drop 8, ())) := by
    have := m35_ok (b.drop 4) (hb.drop 4) 4 (by omega) (by simp; omega)
    rw [List.drop_drop] at this
    exact this
  have a2 : m35 (b.drop 8, ((8 : Int), ())) = some (((val ((b.drop 8).take 8) : Nat) : Int), (b.drop 16, ())) := by
    have := m35_ok (b.drop 8) (hb.drop 8) 8 (by omega) (by simp; omega)
    rw [List.drop_drop] at this
    exact this
  rw [a1]
  simp only [Option.bind_some]
  rw [a2]
  simp only [Option.bind_some]
  have v1 := val_lt' ((hb.drop 4).take 4) (k := 4) (by simp; omega)
  have v2 := val_lt' ((hb.drop 8).take 8) (k := 8) (by simp; omega)
  unfold dsup
  generalize val ((b.drop 4).take 4) = s at *
  generalize val ((b.drop 8).take 8) = q at *
  obtain ⟨w1, w2⟩ := okS_wrap s q v2
  rw [wrap64 (n := (s : Int)) (by omega) (by omega), m36_ok]
  simp only [Option.bind_some]
  by_cases hok : okS (s : Int) (q : Int)
  · rw [w2 hok, if_pos hok]
    simp only [Int.toNat_natCast]
    refine Ok.ncond (fun h => (h (by simp)).elim) (fun _ => ?_)
    unfold m37
    simp only [Option.bind_some]
    have hin : streq (strOfNums (supF s q)) (strOfNums b) = true ↔ supF s q = b := ofNums_inj (sealed_bytes (sup_bytes s q)) hb
    refine Ok.condb (fun h => Ok.some ?_) (fun h => Ok.some ?_)
    · rw [if_neg]
      rintro ⟨_, _, h3⟩
      have := hin.2 h3
      rw [this] at h; simp at h
    · rw [if_pos ⟨hl, hok, hin.1 (by simpa using h)⟩]
  · rw [if_neg (fun h => hok (w1.1 h))]
    refine Ok.ncond (fun _ => Ok.some ?_) (fun h => absurd h (by decide))
    rw [if_neg (fun h => hok h.2.1)]

theorem m25_ok (b : List Int) (hb : Bytes b) (hlen : b.length ≤ 140737488355328) : m25 (b, ()) = some (dsup b) := by
  apply ok_eq
  unfold m25
  refine Ok.bind (m42_ok b hb hlen) fun r hr => ?_
  have hbad : ¬ Seal b → dsup b = ((0, 0), (170, ())) := fun h => by
    unfold dsup
    rw [if_neg]
    rintro ⟨_, _, h3⟩
    exact h (h3 ▸ supF_seal _ _)
  by_cases hs : Seal b
  rotate_left
  · rw [if_neg hs] at hr
    exact Ok.ncond (fun _ => Ok.some (hbad hs).symm) (fun h => absurd h hr)
  rw [if_pos hs] at hr
  subst hr
  have h4 := hs.1
  have htl : (b.take (b.length - 4)).length = b.length - 4 := by rw [List.length_take]; omega
  refine Ok.ncond (fun h => (h (by simp)).elim) (fun _ => Ok.ncond (fun h => Ok.some ?_) (fun h => ?_))
  · unfold dsup
    rw [if_neg (fun h2 => h (by rw [htl, h2.1]; rfl))]
  rw [htl] at h
  have hl : b.length = 256 := by omega
  refine Ok.gd (by rw [htl]; omega) ?_
  have e16 : List.take (Int.toNat 16 - Int.toNat 0) (List.drop (Int.toNat 0) (b.take (b.length - 4))) = b.take 16 := by
    show List.take 16 (b.take (b.length - 4)) = _
    rw [List.take_take, hl]; rfl
  simp only [e16]
  have ht16 : (b.take 16).length = 16 := by rw [List.length_take]; omega
  have a1 := m43_ok wok3 (b.take 16) (hb.take 16) ht16
  have u1 := un_val (b.take 16) (hb.take 16) 0 4 (by omega)
  have u2 := un_val (b.take 16) (hb.take 16) 4 4 (by omega)
  have u3 := un_val (b.take 16) (hb.take 16) 8 8 (by omega)
  have d2 : ((b.take 16).drop 4).take 4 = (b.drop 4).take 4 := by rw [List.drop_take, List.take_take]; rfl
  have d3 : ((b.take 16).drop 8).take 8 = (b.drop 8).take 8 := by rw [List.drop_take, List.take_take]; rfl
  rw [d2] at u2
  rw [d3] at u3
  have b1 : m43 ([32, 32, 64], (b.take 16, ())) = some ([((un (b.take 16) (8 * 0) (8 * 4) : Nat) : Int), ((un (b.take 16) (8 * 4) (8 * 4) : Nat) : Int), ((un (b.take 16) (8 * 8) (8 * 8) : Nat) : Int)], (0, ())) := a1
  rw [u2, u3] at b1
  rw [b1]
  simp only [Option.bind_some]
  have v1 := val_lt' ((hb.drop 4).take 4) (k := 4) (by simp; omega)
  have v2 := val_lt' ((hb.drop 8).take 8) (k := 8) (by simp; omega)
  unfold dsup
  generalize val ((b.drop 4).take 4) = s at *
  generalize val ((b.drop 8).take 8) = q at *
  generalize un (b.take 16) (8 * 0) (8 * 4) = z at *
  have g1 : List.getD [(z : Int), (s : Int), (q : Int)] (Int.toNat 1) 0 = s := rfl
  have g2 : List.getD [(z : Int), (s : Int), (q : Int)] (Int.toNat 2) 0 = q := rfl
  simp only [g1, g2, List.length_cons, List.length_nil]
  obtain ⟨w1, w2⟩ := okS_wrap s q v2
  refine Ok.gd (by omega) (Ok.cond (fun h => Ok.some ?_) (fun h => Ok.gd (by omega) (Ok.gd (by omega) ?_)))
  · rw [if_neg (fun h2 => by have := h2.2.1.2.2.2; omega)]
  rw [wrap64 (n := (s : Int)) (by omega) (by omega), m28_ok]
  simp only [Option.bind_some]
  by_cases hok : okS (s : Int) (q : Int)
  · rw [w2 hok, if_pos hok]
    simp only [Int.toNat_natCast]
    refine Ok.ncond (fun h => (h (by simp)).elim) (fun _ => ?_)
    have hin : streq (strOfNums (supF s q)) (strOfNums b) = true ↔ supF s q = b := ofNums_inj (sealed_bytes (sup_bytes s q)) hb
    refine Ok.condb (fun h => Ok.some ?_) (fun h => Ok.some ?_)
    · rw [if_neg]
      rintro ⟨_, _, h3⟩
      have := hin.2 h3
      have h' : (!streq (strOfNums (supF s q)) (strOfNums b)) = true := h
      rw [this] at h'; simp at h'
    · have h' : (!streq (strOfNums (supF s q)) (strOfNums b)) = false := h
      rw [if_pos ⟨hl, hok, hin.1 (by simpa using h')⟩]
  · rw [if_neg (fun h => hok (w1.1 h))]
    refine Ok.ncond (fun _ => Ok.some ?_) (fun h => absurd h (by decide))
    rw [if_neg (fun h => hok h.2.1)]
end Go.Proofs.Ytjleeabhpfmhaaa
end

section
namespace Go.Proofs.Ytjleeabhpfmhaaa
open Go Go.Proofs.AM

abbrev JB := Int × (Int × ((List (Int × Bool)) × ((List Int) × Int)))

def isBlk (n : Int) : Prop := 0 ≤ n ∧ n < 8192
instance (n : Int) : Decidable (isBlk n) := by unfold isBlk; exact inferInstance

theorem m75_ok (n : Int) : m75 (n, ()) = some (decide (isBlk n), ()) := by
  unfold m75
  dsimp only
  by_cases h : n ≥ 0
  · rw [decide_eq_true h, cond_true]
    have : decide (n < 8192) = decide (isBlk n) := decide_eq_decide.2 ⟨fun h2 => ⟨h, h2⟩, fun h2 => h2.2⟩
    rw [this]
  · rw [decide_eq_false h, cond_false, decide_eq_false (fun h2 : isBlk n => h h2.1)]

theorem m57_ok (n : Int) : m57 (n, ()) = some (decide (isBlk n), ()) := by
  unfold m57
  dsimp only
  by_cases h : n ≥ 0
  · rw [decide_eq_true h, cond_true]
    have : decide (n < 8192) = decide (isBlk n) := decide_eq_decide.2 ⟨fun h2 => ⟨h, h2⟩, fun h2 => h2.2⟩
    rw [this]
  · rw [decide_eq_false h, cond_false, decide_eq_false (fun h2 : isBlk n => h h2.1)]

def allT (l : List (Int × Bool)) : Prop := ∀ i, i < l.length → isBlk (l.getD i (0, false)).1
def allR (l : List Int) : Prop := ∀ i, i < l.length → isBlk (l.getD i 0)

def plainB (x : JB) : Prop :=
  (1 ≤ x.2.1 ∧ x.2.1 ≤ 281474976710656) ∧
    (if x.1 = 1 then x.2.2.2.1.length = 0 ∧ x.2.2.2.2 = 0 ∧ 1 ≤ x.2.2.1.length ∧ x.2.2.1.length ≤ 48 ∧ allT x.2.2.1
     else if x.1 = 3 then x.2.2.1.length = 0 ∧ x.2.2.2.2 = 0 ∧ 1 ≤ x.2.2.2.1.length ∧ x.2.2.2.1.length ≤ 60 ∧ allR x.2.2.2.1
     else if x.1 = 2 then x.2.2.1.length = 0 ∧ x.2.2.2.1.length = 0 ∧ 1 ≤ x.2.2.2.2 ∧ x.2.2.2.2 ≤ 64 else False)

theorem m82_ok (x : JB) : Ok (m82 (x, ())) (fun r => r.1 = true ↔ plainB x) := by
  obtain ⟨k, q, t, v, c⟩ := x
  unfold m82 plainB
  rw [m58_ok]
  dsimp only [Option.bind_some]
  refine Ok.ncond (fun h => Ok.some ⟨fun h => by simp at h, fun h2 => absurd h2.1 h⟩) (fun hq => ?_)
  refine Ok.cond (fun hk => ?_) (fun hk => Ok.cond (fun hk3 => ?_) (fun hk3 => Ok.cond (fun hk2 => ?_) (fun hk2 => Ok.some ?_)))
  · rw [if_pos hk]
    refine Ok.cond (fun h1 => ?_) (fun h1 => Ok.some ⟨fun h => by simp at h, fun h => by omega⟩)
    refine Ok.cond (fun h2 => ?_) (fun h2 => Ok.some ⟨fun h => by simp at h, fun h => by omega⟩)
    refine Ok.cond (fun h3 => ?_) (fun h3 => Ok.some ⟨fun h => by simp at h, fun h => by omega⟩)
    refine Ok.cond (fun h4 => ?_) (fun h4 => Ok.some ⟨fun h => by simp at h, fun h => by omega⟩)
    refine Ok.bind (S := fun r => (r = .inl () ∧ allT t) ∨ ((∃ i : Nat, r = .inr (i : Int)) ∧ ¬ allT t)) ?_ ?_
    · refine Ok.loop t.length (fun i x => x = (i : Int) ∧ ∀ j, j < i → isBlk (t.getD j (0, false)).1) ⟨rfl, fun j hj => by omega⟩ ?_
      rintro i x hi ⟨rfl, h⟩
      refine Ok.cond (fun hc => ?_) (fun hc => Ok.inr (.inl ⟨rfl, fun j hj => h j (by omega)⟩))
      refine Ok.gd (by omega) (Ok.gd hc ?_)
      rw [m75_ok]
      simp only [Int.toNat_natCast, Option.bind_some]
      refine Ok.ncond (fun hne => Ok.inr (.inr ⟨⟨i, rfl⟩, fun hh => hne (hh i (by omega))⟩)) (fun he => Ok.inl ⟨by omega, wsucc (by omega), fun j hj => ?_⟩)
      by_cases e : j = i
      · subst e; exact he
      · exact h j (by omega)
    · rintro r (⟨rfl, h⟩ | ⟨⟨i, rfl⟩, h⟩)
      · exact Ok.some ⟨fun _ => ⟨hq, by omega, by omega, by omega, by omega, h⟩, fun _ => by simp⟩
      · refine Ok.some ⟨fun e => ?_, fun h2 => absurd h2.2.2.2.2.2 h⟩
        have : ((i : Int) ≥ 0) := by omega
        simp [this] at e
  · rw [if_neg hk, if_pos hk3]
    refine Ok.cond (fun h1 => ?_) (fun h1 => Ok.some ⟨fun h => by simp at h, fun h => by omega⟩)
    refine Ok.cond (fun h2 => ?_) (fun h2 => Ok.some ⟨fun h => by simp at h, fun h => by omega⟩)
    refine Ok.cond (fun h3 => ?_) (fun h3 => Ok.some ⟨fun h => by simp at h, fun h => by omega⟩)
    refine Ok.cond (fun h4 => ?_) (fun h4 => Ok.some ⟨fun h => by simp at h, fun h => by omega⟩)
    refine Ok.bind (S := fun r => (r = .inl () ∧ allR v) ∨ ((∃ i : Nat, r = .inr (i : Int)) ∧ ¬ allR v)) ?_ ?_
    · refine Ok.loop v.length (fun i x => x = (i : Int) ∧ ∀ j, j < i → isBlk (v.getD j 0)) ⟨rfl, fun j hj => by omega⟩ ?_
      rintro i x hi ⟨rfl, h⟩
      refine Ok.cond (fun hc => ?_) (fun hc => Ok.inr (.inl ⟨rfl, fun j hj => h j (by omega)⟩))
      refine Ok.gd (by omega) (Ok.gd hc ?_)
      rw [m75_ok]
      simp only [Int.toNat_natCast, Option.bind_some]
      refine Ok.ncond (fun hne => Ok.inr (.inr ⟨⟨i, rfl⟩, fun hh => hne (hh i (by omega))⟩)) (fun he => Ok.inl ⟨by omega, wsucc (by omega), fun j hj => ?_⟩)
      by_cases e : j = i
      · subst e; exact he
      · exact h j (by omega)
    · rintro r (⟨rfl, h⟩ | ⟨⟨i, rfl⟩, h⟩)
      · exact Ok.some ⟨fun _ => ⟨hq, by omega, by omega, by omega, by omega, h⟩, fun _ => by simp⟩
      · refine Ok.some ⟨fun e => ?_, fun h2 => absurd h2.2.2.2.2.2 h⟩
        have : ((i : Int) ≥ 0) := by omega
        simp [this] at e
  · rw [if_neg hk, if_neg hk3, if_pos hk2]
    refine Ok.cond (fun h1 => ?_) (fun h1 => Ok.some ⟨fun h => by simp at h, fun h => by omega⟩)
    refine Ok.cond (fun h2 => ?_) (fun h2 => Ok.some ⟨fun h => by simp at h, fun h => by omega⟩)
    refine Ok.cond (fun h3 => ?_) (fun h3 => Ok.some ⟨fun h => by simp at h, fun h => by omega⟩)
    refine Ok.some ⟨fun h => ⟨hq, by omega, by omega, by omega, by simpa using h⟩, fun h => by simpa using h.2.2.2.2⟩
  · rw [if_neg hk, if_neg hk3, if_neg hk2]
    exact ⟨fun h => by simp at h, fun h => h.2.elim⟩

theorem m71_ok (x : JB) (hlt : x.2.2.1.length ≤ 1000000000) (hlv : x.2.2.2.1.length ≤ 1000000000) : Ok (m71 (x, ())) (fun r => r.1 = true ↔ plainB x) := by
  obtain ⟨k, q, t, v, c⟩ := x
  unfold m71 plainB
  dsimp only at hlt hlv ⊢
  refine Ok.cond (fun h => Ok.some ⟨fun h => by simp at h, fun h2 => by omega⟩) (fun hq1 => ?_)
  refine Ok.cond (fun h => Ok.some ⟨fun h => by simp at h, fun h2 => by omega⟩) (fun hq2 => ?_)
  refine Ok.cond (fun hk => ?_) (fun hk => Ok.cond (fun hk3 => ?_) (fun hk3 => Ok.cond (fun hk2 => ?_) (fun hk2 => Ok.some ?_)))
  · rw [if_pos hk]
    refine Ok.bind (S := fun r => (r = .inl () ∧ allT t) ∨ (r = .inr false ∧ ¬ allT t)) ?_ ?_
    · refine Ok.loop t.length (fun i x => x = (i : Int) ∧ ∀ j, j < i → isBlk (t.getD j (0, false)).1) ⟨rfl, fun j hj => by omega⟩ ?_
      rintro i x hi ⟨rfl, h⟩
      refine Ok.cond (fun hc => ?_) (fun hc => Ok.inr (.inl ⟨rfl, fun j hj => h j (by omega)⟩))
      refine Ok.gd (by omega) (Ok.gd hc ?_)
      rw [m57_ok]
      simp only [Int.toNat_natCast, Option.bind_some]
      refine Ok.ncond (fun hne => Ok.inr (.inr ⟨rfl, fun hh => hne (hh i (by omega))⟩)) (fun he => Ok.inl ⟨by omega, wsucc (by omega), fun j hj => ?_⟩)
      by_cases e : j = i
      · subst e; exact he
      · exact h j (by omega)
    · rintro r (⟨rfl, h⟩ | ⟨rfl, h⟩)
      · refine Ok.cond (fun h1 => ?_) (fun h1 => Ok.some ⟨fun h => by simp at h, fun h => by omega⟩)
        refine Ok.cond (fun h2 => ?_) (fun h2 => Ok.some ⟨fun h => by simp at h, fun h => by omega⟩)
        refine Ok.cond (fun h3 => ?_) (fun h3 => Ok.some ⟨fun h => by simp at h, fun h => by omega⟩)
        refine Ok.some ⟨fun h5 => ⟨by omega, by omega, by simpa using h5, by omega, by omega, h⟩, fun h5 => by simpa using h5.2.2.1⟩
      · exact Ok.some ⟨fun e => by simp at e, fun h2 => absurd h2.2.2.2.2.2 h⟩
  · rw [if_neg hk, if_pos hk3]
    refine Ok.bind (S := fun r => (r = .inl () ∧ allR v) ∨ (r = .inr false ∧ ¬ allR v)) ?_ ?_
    · refine Ok.loop v.length (fun i x => x = (i : Int) ∧ ∀ j, j < i → isBlk (v.getD j 0)) ⟨rfl, fun j hj => by omega⟩ ?_
      rintro i x hi ⟨rfl, h⟩
      refine Ok.cond (fun hc => ?_) (fun hc => Ok.inr (.inl ⟨rfl, fun j hj => h j (by omega)⟩))
      refine Ok.gd (by omega) (Ok.gd hc ?_)
      rw [m57_ok]
      simp only [Int.toNat_natCast, Option.bind_some]
      refine Ok.ncond (fun hne => Ok.inr (.inr ⟨rfl, fun hh => hne (hh i (by omega))⟩)) (fun he => Ok.inl ⟨by omega, wsucc (by omega), fun j hj => ?_⟩)
      by_cases e : j = i
      · subst e; exact he
      · exact h j (by omega)
    · rintro r (⟨rfl, h⟩ | ⟨rfl, h⟩)
      · refine Ok.cond (fun h1 => ?_) (fun h1 => Ok.some ⟨fun h => by simp at h, fun h => by omega⟩)
        refine Ok.cond (fun h2 => ?_) (fun h2 => Ok.some ⟨fun h => by simp at h, fun h => by omega⟩)
        refine Ok.cond (fun h3 => ?_) (fun h3 => Ok.some ⟨fun h => by simp at h, fun h => by omega⟩)
        refine Ok.some ⟨fun h5 => ⟨by omega, by omega, by simpa using h5, by omega, by omega, h⟩, fun h5 => by simpa using h5.2.2.1⟩
      · exact Ok.some ⟨fun e => by simp at e, fun h2 => absurd h2.2.2.2.2.2 h⟩
  · rw [if_neg hk, if_neg hk3, if_pos hk2]
    refine Ok.cond (fun h1 => ?_) (fun h1 => Ok.some ⟨fun h => by simp at h, fun h => by omega⟩)
    refine Ok.cond (fun h2 => ?_) (fun h2 => Ok.some ⟨fun h => by simp at h, fun h => by omega⟩)
    refine Ok.cond (fun h3 => ?_) (fun h3 => Ok.some ⟨fun h => by simp at h, fun h => by omega⟩)
    refine Ok.some ⟨fun h => ?_, fun h => ?_⟩
    · have := of_decide_eq_true h
      exact ⟨by omega, by omega, by omega, by omega, by omega⟩
    · exact decide_eq_true (by omega)
  · rw [if_neg hk, if_neg hk3, if_neg hk2]
    exact ⟨fun h => by simp at h, fun h => h.2.elim⟩

theorem plain_facts {x : JB} (h : plainB x) : (1 ≤ x.1 ∧ x.1 ≤ 3) ∧ (1 ≤ x.2.1 ∧ x.2.1 ≤ 281474976710656) ∧ x.2.2.1.length ≤ 48 ∧ x.2.2.2.1.length ≤ 60 ∧ (x.2.2.1.length = 0 ∨ x.2.2.2.1.length = 0) ∧ 0 ≤ x.2.2.2.2 ∧
    ((x.2.2.1.length : Nat) : Int) + ((x.2.2.2.1.length : Nat) : Int) + x.2.2.2.2 ≤ 64 ∧ allT x.2.2.1 ∧ allR x.2.2.2.1 := by
  obtain ⟨h1, h2⟩ := h
  split at h2
  · refine ⟨by omega, h1, by omega, by omega, by omega, by omega, by omega, h2.2.2.2.2, fun i hi => by omega⟩
  · split at h2
    · refine ⟨by omega, h1, by omega, by omega, by omega, by omega, by omega, fun i hi => by omega, h2.2.2.2.2⟩
    · split at h2
      · exact ⟨by omega, h1, by omega, by omega, by omega, by omega, by omega, fun i hi => by omega, fun i hi => by omega⟩
      · exact h2.elim

def tagB (t : Int × Bool) : List Int := be t.1.toNat 4 ++ be (if t.2 then 1 else 0) 1
def revB (n : Int) : List Int := be n.toNat 4
def cnt (x : JB) : Nat := (((x.2.2.1.length : Nat) : Int) + ((x.2.2.2.1.length : Nat) : Int) + x.2.2.2.2).toNat
def hdB (x : JB) : List Int := be 1397508641 4 ++ be x.1.toNat 1 ++ be x.2.1.toNat 8 ++ be (cnt x) 1
def inB (x : JB) : List Int := hdB x ++ x.2.2.1.flatMap tagB ++ x.2.2.2.1.flatMap revB
def encB (x : JB) : List Int := inB x ++ List.replicate (256 - (inB x).length) 0

theorem hdB_len (x : JB) : (hdB x).length = 14 := by simp [hdB, be_len]
theorem tags_len : ∀ l : List (Int × Bool), (l.flatMap tagB).length = 5 * l.length
  | [] => rfl
  | t :: l => by rw [List.flatMap_cons, List.length_append, tags_len l]; simp [tagB, be_len]; omega
theorem revs_len : ∀ l : List Int, (l.flatMap revB).length = 4 * l.length
  | [] => rfl
  | t :: l => by rw [List.flatMap_cons, List.length_append, revs_len l]; simp [revB, be_len]; omega
theorem inB_len (x : JB) : (inB x).length = 14 + 5 * x.2.2.1.length + 4 * x.2.2.2.1.length := by
  simp only [inB, List.length_append, hdB_len, tags_len, revs_len]
theorem flat_bytes' {A : Type} {f : A → List Int} (h : ∀ a, Bytes (f a)) (l : List A) : Bytes (l.flatMap f) := fun x hx => by
  obtain ⟨a, _, ha⟩ := List.mem_flatMap.1 hx
  exact h a x ha
theorem inB_bytes (x : JB) : Bytes (inB x) :=
  (((((be_bytes _ _).app (be_bytes _ _)).app (be_bytes _ _)).app (be_bytes _ _)).app (flat_bytes' (fun a => (be_bytes _ _).app (be_bytes _ _)) _)).app (flat_bytes' (fun a => be_bytes _ _) _)
theorem encB_bytes (x : JB) : Bytes (encB x) := (inB_bytes x).app (Bytes.zeros _)
theorem encB_len {x : JB} (h : plainB x) : (encB x).length = 256 := by
  obtain ⟨_, _, h3, h4, h5, _⟩ := plain_facts h
  simp only [encB, List.length_append, List.length_replicate, inB_len]
  omega

theorem flatMap_snoc {A : Type} (f : A → List Int) (l : List A) (i : Nat) (h : i < l.length) (z : A) : (l.take (i + 1)).flatMap f = (l.take i).flatMap f ++ f (l.getD i z) := by
  rw [take_snoc l i h z, List.flatMap_append]; simp

open Classical in
theorem m62_ok (x : JB) : m62 (x, ()) = some (if plainB x then (encB x, (0, ())) else ([], (170, ()))) := by
  apply ok_eq
  unfold m62
  refine Ok.bind (m82_ok x) fun r hr => ?_
  refine Ok.condb (fun h => Ok.some ?_) (fun h => ?_)
  · rw [if_neg]; intro hp; rw [hr.2 hp] at h; simp at h
  have hp : plainB x := hr.1 (by simpa using h)
  rw [if_pos hp]
  obtain ⟨k1, q1, lt, lv, ltv, c0, cs, at_, av⟩ := plain_facts hp
  obtain ⟨k, q, t, v, c⟩ := x
  have hlen := inB_len (k, q, t, v, c)
  have hcnt : cnt (k, q, t, v, c) = (((t.length : Nat) : Int) + ((v.length : Nat) : Int) + c).toNat := rfl
  dsimp only at *
  obtain ⟨k, rfl⟩ : ∃ n : Nat, k = n := ⟨k.toNat, by omega⟩
  obtain ⟨q, rfl⟩ : ∃ n : Nat, q = n := ⟨q.toNat, by omega⟩
  obtain ⟨n, hn⟩ : ∃ n : Nat, ((t.length : Nat) : Int) + ((v.length : Nat) : Int) + c = n := ⟨(((t.length : Nat) : Int) + ((v.length : Nat) : Int) + c).toNat, by omega⟩
  have hw : IntKind.wrap .u64 (IntKind.wrap .i64 (IntKind.wrap .i64 (((t.length : Nat) : Int) + ((v.length : Nat) : Int)) + c)) = (n : Int) := by
    rw [wrap64 (n := ((t.length : Nat) : Int) + ((v.length : Nat) : Int)) (by omega) (by omega), hn, wrap64 (by omega) (by omega), wrapU64 (by omega) (by omega)]
  have hcn : cnt ((k : Int), (q : Int), t, v, c) = n := by rw [hcnt, hn]; rfl
  have b1 : m61 ([], ((1397508641 : Int), ((4 : Int), ()))) = some (be 1397508641 4) := m61_ok [] 1397508641 4 (by omega) (by simp)
  have b2 : m61 (be 1397508641 4, ((k : Int), ((1 : Int), ()))) = some (be 1397508641 4 ++ be k 1) := m61_ok _ k 1 (by omega) (by simp [be_len])
  have b3 : m61 (be 1397508641 4 ++ be k 1, ((q : Int), ((8 : Int), ()))) = some (be 1397508641 4 ++ be k 1 ++ be q 8) := m61_ok _ q 8 (by omega) (by simp [be_len])
  have b4 : m61 (be 1397508641 4 ++ be k 1 ++ be q 8, ((n : Int), ((1 : Int), ()))) = some (be 1397508641 4 ++ be k 1 ++ be q 8 ++ be n 1) := m61_ok _ n 1 (by omega) (by simp [be_len])
  have hh : be 1397508641 4 ++ be k 1 ++ be q 8 ++ be n 1 = hdB ((k : Int), (q : Int), t, v, c) := by unfold hdB; rw [hcn]; rfl
  rw [hh] at b4
  have hl14 := hdB_len ((k : Int), (q : Int), t, v, c)
  rw [hw, wrapU64 (n := (k : Int)) (by omega) (by omega), wrapU64 (n := (q : Int)) (by omega) (by omega), b1]
  simp only [Option.bind_some]
  rw [b2]
  simp only [Option.bind_some]
  rw [b3]
  simp only [Option.bind_some]
  rw [b4]
  simp only [Option.bind_some]
  have hin : inB ((k : Int), (q : Int), t, v, c) = hdB ((k : Int), (q : Int), t, v, c) ++ t.flatMap tagB ++ v.flatMap revB := rfl
  generalize hdB ((k : Int), (q : Int), t, v, c) = hd at *
  refine Ok.bind (S := fun r => r = hd ++ t.flatMap tagB) ?_ (fun r hr => ?_)
  · refine Ok.loop t.length (fun i x => x = (hd ++ (t.take i).flatMap tagB, (i : Int))) (by simp) ?_
    rintro i x hi rfl
    refine Ok.cond (fun hc => ?_) (fun hc => ?_)
    rotate_left
    · simp only at hc
      obtain rfl : i = t.length := by omega
      exact Ok.inr (by rw [List.take_length])
    have hi' : i < t.length := by simp only at hc; omega
    have ha := at_ i hi'
    have hs := flatMap_snoc tagB t i hi' (0, false)
    have hl := tags_len (t.take i)
    rw [List.length_take] at hl
    refine Ok.gd (by simp only; omega) (Ok.gd hc ?_)
    simp only [Int.toNat_natCast]
    obtain ⟨tn, te, hte⟩ : ∃ tn te, t.getD i (0, false) = (tn, te) := ⟨_, _, rfl⟩
    rw [hte] at ha hs ⊢
    obtain ⟨tn, rfl⟩ : ∃ m : Nat, tn = m := ⟨tn.toNat, by have := ha.1; simp only at this; omega⟩
    have ha2 := ha.2
    simp only at ha2
    have u := wrapU64 (n := (tn : Int)) (by omega) (by omega)
    have c1 : m61 (hd ++ (t.take i).flatMap tagB, ((tn : Int), ((4 : Int), ()))) = some (hd ++ (t.take i).flatMap tagB ++ be tn 4) := m61_ok _ tn 4 (by omega) (by simp only [List.length_append]; omega)
    cases te with
    | true =>
      have c2 : m61 (hd ++ (t.take i).flatMap tagB ++ be tn 4, ((1 : Int), ((1 : Int), ()))) = some (hd ++ (t.take i).flatMap tagB ++ be tn 4 ++ be 1 1) := m61_ok _ 1 1 (by omega) (by simp only [List.length_append, be_len]; omega)
      simp only [cond_true, u]
      rw [c1]
      simp only [Option.bind_some]
      rw [c2]
      simp only [Option.bind_some]
      refine Ok.inl ⟨hi', ?_⟩
      rw [wsucc (by omega), hs]
      simp [tagB, List.append_assoc]
    | false =>
      have c2 : m61 (hd ++ (t.take i).flatMap tagB ++ be tn 4, ((0 : Int), ((1 : Int), ()))) = some (hd ++ (t.take i).flatMap tagB ++ be tn 4 ++ be 0 1) := m61_ok _ 0 1 (by omega) (by simp only [List.length_append, be_len]; omega)
      simp only [cond_false, u]
      rw [c1]
      simp only [Option.bind_some]
      rw [c2]
      simp only [Option.bind_some]
      refine Ok.inl ⟨hi', ?_⟩
      rw [wsucc (by omega), hs]
      simp [tagB, List.append_assoc]
  subst hr
  refine Ok.bind (S := fun r => r = hd ++ t.flatMap tagB ++ v.flatMap revB) ?_ (fun r hr => ?_)
  · refine Ok.loop v.length (fun i x => x = (hd ++ t.flatMap tagB ++ (v.take i).flatMap revB, (i : Int))) (by simp) ?_
    rintro i x hi rfl
    refine Ok.cond (fun hc => ?_) (fun hc => ?_)
    rotate_left
    · simp only at hc
      obtain rfl : i = v.length := by omega
      exact Ok.inr (by rw [List.take_length])
    have hi' : i < v.length := by simp only at hc; omega
    have ha := av i hi'
    have hs := flatMap_snoc revB v i hi' 0
    have hl := revs_len (v.take i)
    have hl2 := tags_len t
    rw [List.length_take] at hl
    refine Ok.gd (by simp only; omega) (Ok.gd hc ?_)
    simp only [Int.toNat_natCast]
    obtain ⟨m, hm⟩ : ∃ m : Nat, v.getD i 0 = m := ⟨(v.getD i 0).toNat, by have := ha.1; omega⟩
    rw [hm] at ha hs ⊢
    have ha2 := ha.2
    have c1 : m61 (hd ++ t.flatMap tagB ++ (v.take i).flatMap revB, ((m : Int), ((4 : Int), ()))) = some (hd ++ t.flatMap tagB ++ (v.take i).flatMap revB ++ be m 4) := m61_ok _ m 4 (by omega) (by simp only [List.length_append]; omega)
    rw [wrapU64 (n := (m : Int)) (by omega) (by omega), c1]
    simp only [Option.bind_some]
    refine Ok.inl ⟨hi', ?_⟩
    rw [wsucc (by omega), hs]
    simp [revB, List.append_assoc]
  subst hr
  rw [← hin]
  have d1 : m60 (inB ((k : Int), (q : Int), t, v, c), ((256 : Int), ())) = some (encB ((k : Int), (q : Int), t, v, c)) := m60_ok _ 256 (by omega) (by omega)
  rw [d1]
  exact Ok.some rfl

theorem wok4 : Wok [32, 8, 64, 8] 14 := ⟨by decide, by decide, by decide, by decide⟩
theorem wok2 : Wok [32, 8] 5 := ⟨by decide, by decide, by decide, by decide⟩
theorem wok1 : Wok [32] 4 := ⟨by decide, by decide, by decide, by decide⟩

theorem m48_4 (a b c d : Nat) (ha : a < 2 ^ 32) (hb : b < 2 ^ 8) (hc : c < 2 ^ 64) (hd : d < 2 ^ 8) : m48 ([32, 8, 64, 8], ([(a : Int), (b : Int), (c : Int), (d : Int)], ())) = some (be a 4 ++ be b 1 ++ be c 8 ++ be d 1, (0, ())) := by
  have a1 := m48_ok wok4 (fun i => [a, b, c, d].getD i 0) (by
    intro i hi
    rcases i with _ | _ | _ | _ | i
    · exact ha
    · exact hb
    · exact hc
    · exact hd
    · simp at hi; omega)
  have b1 : m48 ([32, 8, 64, 8], ([(a : Int), (b : Int), (c : Int), (d : Int)], ())) = some (be a 4 ++ (be b 1 ++ (be c 8 ++ (be d 1 ++ []))), (0, ())) := a1
  rw [b1]; simp

theorem m48_2 (a b : Nat) (ha : a < 2 ^ 32) (hb : b < 2 ^ 8) : m48 ([32, 8], ([(a : Int), (b : Int)], ())) = some (be a 4 ++ be b 1, (0, ())) := by
  have a1 := m48_ok wok2 (fun i => [a, b].getD i 0) (by
    intro i hi
    rcases i with _ | _ | i
    · exact ha
    · exact hb
    · simp at hi; omega)
  have b1 : m48 ([32, 8], ([(a : Int), (b : Int)], ())) = some (be a 4 ++ (be b 1 ++ []), (0, ())) := a1
  rw [b1]; simp

theorem m48_1 (a : Nat) (ha : a < 2 ^ 32) : m48 ([32], ([(a : Int)], ())) = some (be a 4, (0, ())) := by
  have a1 := m48_ok wok1 (fun i => [a].getD i 0) (by
    intro i hi
    rcases i with _ | i
    · exact ha
    · simp at hi)
  have b1 : m48 ([32], ([(a : Int)], ())) = some (be a 4 ++ [], (0, ())) := a1
  rw [b1]; simp

open Classical in
theorem m46_ok (x : JB) (hlt : x.2.2.1.length ≤ 1000000000) (hlv : x.2.2.2.1.length ≤ 1000000000) : m46 (x, ()) = some (if plainB x then (encB x, (0, ())) else ([], (170, ()))) := by
  apply ok_eq
  unfold m46
  refine Ok.bind (m71_ok x hlt hlv) fun r hr => ?_
  refine Ok.condb (fun h => Ok.some ?_) (fun h => ?_)
  · rw [if_neg]; intro hp; rw [hr.2 hp] at h; simp at h
  have hp : plainB x := hr.1 (by simpa using h)
  rw [if_pos hp]
  obtain ⟨k1, q1, lt, lv, ltv, c0, cs, at_, av⟩ := plain_facts hp
  obtain ⟨k, q, t, v, c⟩ := x
  have hlen := inB_len (k, q, t, v, c)
  have hcnt : cnt (k, q, t, v, c) = (((t.length : Nat) : Int) + ((v.length : Nat) : Int) + c).toNat := rfl
  dsimp only at *
  obtain ⟨k, rfl⟩ : ∃ n : Nat, k = n := ⟨k.toNat, by omega⟩
  obtain ⟨q, rfl⟩ : ∃ n : Nat, q = n := ⟨q.toNat, by omega⟩
  obtain ⟨n, hn⟩ : ∃ n : Nat, ((t.length : Nat) : Int) + ((v.length : Nat) : Int) + c = n := ⟨(((t.length : Nat) : Int) + ((v.length : Nat) : Int) + c).toNat, by omega⟩
  have hw : IntKind.wrap .u64 (IntKind.wrap .i64 (IntKind.wrap .i64 (((t.length : Nat) : Int) + ((v.length : Nat) : Int)) + c)) = (n : Int) := by
    rw [wrap64 (n := ((t.length : Nat) : Int) + ((v.length : Nat) : Int)) (by omega) (by omega), hn, wrap64 (by omega) (by omega), wrapU64 (by omega) (by omega)]
  have hcn : cnt ((k : Int), (q : Int), t, v, c) = n := by rw [hcnt, hn]; rfl
  have b1 : m48 ([32, 8, 64, 8], ([(1397508641 : Int), (k : Int), (q : Int), (n : Int)], ())) = some (be 1397508641 4 ++ be k 1 ++ be q 8 ++ be n 1, (0, ())) := m48_4 1397508641 k q n (by omega) (by omega) (by omega) (by omega)
  have hh : be 1397508641 4 ++ be k 1 ++ be q 8 ++ be n 1 = hdB ((k : Int), (q : Int), t, v, c) := by unfold hdB; rw [hcn]; rfl
  rw [hh] at b1
  have hl14 := hdB_len ((k : Int), (q : Int), t, v, c)
  rw [hw, wrapU64 (n := (k : Int)) (by omega) (by omega), wrapU64 (n := (q : Int)) (by omega) (by omega), b1]
  simp only [Option.bind_some]
  have hin : inB ((k : Int), (q : Int), t, v, c) = hdB ((k : Int), (q : Int), t, v, c) ++ t.flatMap tagB ++ v.flatMap revB := rfl
  generalize hdB ((k : Int), (q : Int), t, v, c) = hd at *
  refine Ok.bind (S := fun r => r = hd ++ t.flatMap tagB) ?_ (fun r hr => ?_)
  · refine Ok.loop t.length (fun i x => x = (hd ++ (t.take i).flatMap tagB, (i : Int))) (by simp) ?_
    rintro i x hi rfl
    refine Ok.cond (fun hc => ?_) (fun hc => ?_)
    rotate_left
    · simp only at hc
      obtain rfl : i = t.length := by omega
      exact Ok.inr (by rw [List.take_length])
    have hi' : i < t.length := by simp only at hc; omega
    have ha := at_ i hi'
    have hs := flatMap_snoc tagB t i hi' (0, false)
    have hl := tags_len (t.take i)
    rw [List.length_take] at hl
    refine Ok.gd (by simp only; omega) (Ok.gd hc ?_)
    simp only [Int.toNat_natCast]
    obtain ⟨tn, te, hte⟩ : ∃ tn te, t.getD i (0, false) = (tn, te) := ⟨_, _, rfl⟩
    rw [hte] at ha hs ⊢
    obtain ⟨tn, rfl⟩ : ∃ m : Nat, tn = m := ⟨tn.toNat, by have := ha.1; simp only at this; omega⟩
    have ha2 := ha.2
    simp only at ha2
    have u := wrapU64 (n := (tn : Int)) (by omega) (by omega)
    cases te with
    | true =>
      have c2 : m48 ([32, 8], ([(tn : Int), (1 : Int)], ())) = some (be tn 4 ++ be 1 1, (0, ())) := m48_2 tn 1 (by omega) (by omega)
      simp only [cond_true, u]
      rw [c2]
      simp only [Option.bind_some, List.length_append, be_len]
      refine Ok.gd (by omega) (Ok.gd (by omega) (Ok.gd (by omega) (Ok.gd (by omega) (Ok.inl ⟨hi', ?_⟩))))
      rw [wsucc (by omega), hs]
      simp [tagB, List.append_assoc]
    | false =>
      have c2 : m48 ([32, 8], ([(tn : Int), (0 : Int)], ())) = some (be tn 4 ++ be 0 1, (0, ())) := m48_2 tn 0 (by omega) (by omega)
      simp only [cond_false, u]
      rw [c2]
      simp only [Option.bind_some, List.length_append, be_len]
      refine Ok.gd (by omega) (Ok.gd (by omega) (Ok.gd (by omega) (Ok.gd (by omega) (Ok.inl ⟨hi', ?_⟩))))
      rw [wsucc (by omega), hs]
      simp [tagB, List.append_assoc]
  subst hr
  refine Ok.bind (S := fun r => r = hd ++ t.flatMap tagB ++ v.flatMap revB) ?_ (fun r hr => ?_)
  · refine Ok.loop v.length (fun i x => x = (hd ++ t.flatMap tagB ++ (v.take i).flatMap revB, (i : Int))) (by simp) ?_
    rintro i x hi rfl
    refine Ok.cond (fun hc => ?_) (fun hc => ?_)
    rotate_left
    · simp only at hc
      obtain rfl : i = v.length := by omega
      exact Ok.inr (by rw [List.take_length])
    have hi' : i < v.length := by simp only at hc; omega
    have ha := av i hi'
    have hs := flatMap_snoc revB v i hi' 0
    have hl := revs_len (v.take i)
    have hl2 := tags_len t
    rw [List.length_take] at hl
    refine Ok.gd (by simp only; omega) (Ok.gd hc ?_)
    simp only [Int.toNat_natCast]
    obtain ⟨m, hm⟩ : ∃ m : Nat, v.getD i 0 = m := ⟨(v.getD i 0).toNat, by have := ha.1; omega⟩
    rw [hm] at ha hs ⊢
    have ha2 := ha.2
    rw [wrapU64 (n := (m : Int)) (by omega) (by omega), m48_1 m (by omega)]
    simp only [Option.bind_some, List.length_append, be_len]
    refine Ok.gd (by omega) (Ok.gd (by omega) (Ok.inl ⟨hi', ?_⟩))
    rw [wsucc (by omega), hs]
    simp [revB, List.append_assoc]
  subst hr
  rw [← hin]
  have d1 : m50 (inB ((k : Int), (q : Int), t, v, c), ((256 : Int), ())) = some (encB ((k : Int), (q : Int), t, v, c)) := m50_ok _ 256 (by omega) (by omega)
  rw [d1]
  exact Ok.some rfl
end Go.Proofs.Ytjleeabhpfmhaaa
end

section
namespace Go.Proofs.Ytjleeabhpfmhaaa
open Go Go.Proofs.AM

def tagAt (b : List Int) (i : Nat) : Int × Bool := (((val ((b.drop (14 + 5 * i)).take 4) : Nat) : Int), decide (((val ((b.drop (18 + 5 * i)).take 1) : Nat) : Int) = 1))
def revAt (b : List Int) (i : Nat) : Int := ((val ((b.drop (14 + 4 * i)).take 4) : Nat) : Int)
def tagsOf (b : List Int) (n : Nat) : List (Int × Bool) := (List.range n).map (tagAt b)
def revsOf (b : List Int) (n : Nat) : List Int := (List.range n).map (revAt b)

theorem tagsOf_succ (b : List Int) (n : Nat) : tagsOf b (n + 1) = tagsOf b n ++ [tagAt b n] := by unfold tagsOf; rw [List.range_succ, List.map_append]; rfl
theorem revsOf_succ (b : List Int) (n : Nat) : revsOf b (n + 1) = revsOf b n ++ [revAt b n] := by unfold revsOf; rw [List.range_succ, List.map_append]; rfl
theorem tagsOf_len (b : List Int) (n : Nat) : (tagsOf b n).length = n := by simp [tagsOf]
theorem revsOf_len (b : List Int) (n : Nat) : (revsOf b n).length = n := by simp [revsOf]

def kOf (b : List Int) : Nat := val ((b.drop 4).take 1)
def qOf (b : List Int) : Nat := val ((b.drop 5).take 8)
def nOf (b : List Int) : Nat := val ((b.drop 13).take 1)

def cand (b : List Int) : JB :=
  if kOf b = 1 ∧ nOf b ≤ 48 then (((kOf b : Nat) : Int), (((qOf b : Nat) : Int), (tagsOf b (nOf b), ([], 0))))
  else if kOf b = 3 ∧ nOf b ≤ 60 then (((kOf b : Nat) : Int), (((qOf b : Nat) : Int), ([], (revsOf b (nOf b), 0))))
  else (((kOf b : Nat) : Int), (((qOf b : Nat) : Int), ([], ([], ((nOf b : Nat) : Int)))))

theorem cand_q (b : List Int) : (cand b).2.1 = ((qOf b : Nat) : Int) := by
  unfold cand
  split
  · rfl
  · split <;> rfl

abbrev JR := (Int × (Int × ((List (Int × Bool)) × ((List Int) × Int)))) × (Int × Unit)
def badB : JR := ((0, (0, ([], ([], 0)))), (170, ()))

open Classical in
noncomputable def fin (x : JB) (b : List Int) : JR := if plainB x ∧ encB x = b then (x, (0, ())) else badB

open Classical in
noncomputable def decB (b : List Int) : JR := if b.length = 256 then fin (cand b) b else badB

theorem plain_wrap (k : Int) (q : Nat) (hq : q < 18446744073709551616) (t : List (Int × Bool)) (v : List Int) (c : Int) :
    (plainB (k, (IntKind.wrap .i64 (q : Int), (t, (v, c)))) ↔ plainB (k, ((q : Int), (t, (v, c))))) ∧ (plainB (k, ((q : Int), (t, (v, c)))) → (k, (IntKind.wrap .i64 (q : Int), (t, (v, c)))) = (k, ((q : Int), (t, (v, c))))) := by
  obtain ⟨w1, w2⟩ := okS_wrap 0 q hq
  have e : ∀ z : Int, okS ((0 : Nat) : Int) z ↔ (1 ≤ z ∧ z ≤ 281474976710656) := fun z => ⟨fun h => ⟨h.2.2.1, h.2.2.2⟩, fun h => ⟨by decide, by decide, h.1, h.2⟩⟩
  rw [e, e] at w1
  rw [e] at w2
  refine ⟨and_congr w1 Iff.rfl, fun h => ?_⟩
  have h1 : 1 ≤ (q : Int) ∧ (q : Int) ≤ 281474976710656 := h.1
  rw [w2 h1]

theorem fin38 (x' x : JB) (b : List Int) (hb : Bytes b) (h : (plainB x' ↔ plainB x) ∧ (plainB x → x' = x)) : Ok (Option.bind (m62 (x', ())) fun (y5 : ((List Int) × (Int × Unit))) =>
    bif (!(decide (y5.2.1 = (0 : Int)))) then (some (((0 : Int), ((0 : Int), (([] : List (Int × Bool)), (([] : List Int), (0 : Int))))), ((170 : Int), ())))
    else (Option.bind (m37 (y5.1, (b, ()))) fun (y6 : (Bool × Unit)) =>
      bif (!y6.1) then (some (((0 : Int), ((0 : Int), (([] : List (Int × Bool)), (([] : List Int), (0 : Int))))), ((170 : Int), ())))
      else (some (x', ((0 : Int), ()))))) (fun r => r = fin x b) := by
  rw [m62_ok]
  simp only [Option.bind_some]
  unfold fin
  by_cases hp : plainB x
  · rw [h.2 hp, if_pos hp]
    refine Ok.ncond (fun h => (h rfl).elim) (fun _ => ?_)
    unfold m37
    simp only [Option.bind_some]
    have hin := ofNums_inj (encB_bytes x) hb
    refine Ok.condb (fun h => Ok.some ?_) (fun h => Ok.some ?_)
    · rw [if_neg]; · rfl
      rintro ⟨_, h3⟩
      have := hin.2 h3
      rw [this] at h; simp at h
    · rw [if_pos ⟨hp, hin.1 (by simpa using h)⟩]
  · rw [if_neg (fun h2 => hp (h.1.1 h2)), if_neg (fun h2 => hp h2.1)]
    exact Ok.ncond (fun _ => Ok.some rfl) (fun h => absurd h (by decide))

theorem fin44 (x' x : JB) (b : List Int) (hb : Bytes b) (hlt : x'.2.2.1.length ≤ 1000000000) (hlv : x'.2.2.2.1.length ≤ 1000000000) (h : (plainB x' ↔ plainB x) ∧ (plainB x → x' = x)) : Ok (Option.bind (m46 (x', ())) fun (y5 : ((List Int) × (Int × Unit))) =>
    bif (!(decide (y5.2.1 = (0 : Int)))) then (some (((0 : Int), ((0 : Int), (([] : List (Int × Bool)), (([] : List Int), (0 : Int))))), ((170 : Int), ())))
    else (bif (!(streq (Go.strOfNums y5.1) (Go.strOfNums b))) then (some (((0 : Int), ((0 : Int), (([] : List (Int × Bool)), (([] : List Int), (0 : Int))))), ((170 : Int), ())))
      else (some (x', ((0 : Int), ()))))) (fun r => r = fin x b) := by
  rw [m46_ok _ hlt hlv]
  simp only [Option.bind_some]
  unfold fin
  by_cases hp : plainB x
  · rw [h.2 hp, if_pos hp]
    refine Ok.ncond (fun h => (h rfl).elim) (fun _ => ?_)
    have hin := ofNums_inj (encB_bytes x) hb
    refine Ok.condb (fun h => Ok.some ?_) (fun h => Ok.some ?_)
    · rw [if_neg]; · rfl
      rintro ⟨_, h3⟩
      have := hin.2 h3
      rw [this] at h; simp at h
    · rw [if_pos ⟨hp, hin.1 (by simpa using h)⟩]
  · rw [if_neg (fun h2 => hp (h.1.1 h2)), if_neg (fun h2 => hp h2.1)]
    exact Ok.ncond (fun _ => Ok.some rfl) (fun h => absurd h (by decide))

theorem m35_at (b : List Int) (hb : Bytes b) (a k : Nat) (hk : k ≤ 8) (hl : a + k ≤ b.length) : m35 (b.drop a, ((k : Int), ())) = some (((val ((b.drop a).take k) : Nat) : Int), (b.drop (a + k), ())) := by
  rw [m35_ok (b.drop a) (hb.drop a) k hk (by simp; omega), List.drop_drop]

theorem k_lt {b : List Int} (hb : Bytes b) : kOf b < 256 := val_lt' ((hb.drop 4).take 1) (k := 1) (by simp; omega)
theorem q_lt {b : List Int} (hb : Bytes b) : qOf b < 18446744073709551616 := val_lt' ((hb.drop 5).take 8) (k := 8) (by simp; omega)
theorem n_lt {b : List Int} (hb : Bytes b) : nOf b < 256 := val_lt' ((hb.drop 13).take 1) (k := 1) (by simp; omega)

theorem m38_ok (b : List Int) (hb : Bytes b) : m38 (b, ()) = some (decB b) := by
  apply ok_eq
  unfold m38
  dsimp only
  unfold decB
  refine Ok.ncond (fun h => Ok.some ?_) (fun h => ?_)
  · rw [if_neg (fun h2 => h (by rw [h2]; rfl))]; rfl
  have hl : b.length = 256 := by omega
  rw [if_pos hl]
  have e4 : List.take (Int.toNat ((b.length : Nat) : Int) - Int.toNat 4) (List.drop (Int.toNat 4) b) = b.drop 4 := by
    rw [Int.toNat_natCast]
    exact List.take_of_length_le (by simp)
  refine Ok.gd (by omega) (Ok.gd (by omega) ?_)
  have a1 : m35 (b.drop 4, ((1 : Int), ())) = some (((kOf b : Nat) : Int), (b.drop 5, ())) := m35_at b hb 4 1 (by omega) (by omega)
  have a2 : m35 (b.drop 5, ((8 : Int), ())) = some (((qOf b : Nat) : Int), (b.drop 13, ())) := m35_at b hb 5 8 (by omega) (by omega)
  have a3 : m35 (b.drop 13, ((1 : Int), ())) = some (((nOf b : Nat) : Int), (b.drop 14, ())) := m35_at b hb 13 1 (by omega) (by omega)
  have hk := k_lt hb
  have hq := q_lt hb
  have hn := n_lt hb
  rw [e4, a1]
  simp only [Option.bind_some]
  rw [a2]
  simp only [Option.bind_some]
  rw [a3]
  simp only [Option.bind_some]
  have wk : IntKind.wrap .i64 ((kOf b : Nat) : Int) = ((kOf b : Nat) : Int) := wrap64 (by omega) (by omega)
  have wn : IntKind.wrap .i64 ((nOf b : Nat) : Int) = ((nOf b : Nat) : Int) := wrap64 (by omega) (by omega)
  have hpw := plain_wrap ((kOf b : Nat) : Int) (qOf b) hq
  simp only [wk, wn]
  have revs : kOf b = 3 → nOf b ≤ 60 → cand b = (((kOf b : Nat) : Int), (((qOf b : Nat) : Int), ([], (revsOf b (nOf b), 0)))) := fun h1 h2 => by
    unfold cand; rw [if_neg (by omega), if_pos ⟨h1, h2⟩]
  have rest : ¬ (kOf b = 1 ∧ nOf b ≤ 48) → ¬ (kOf b = 3 ∧ nOf b ≤ 60) → cand b = (((kOf b : Nat) : Int), (((qOf b : Nat) : Int), ([], ([], ((nOf b : Nat) : Int))))) := fun h1 h2 => by
    unfold cand; rw [if_neg h1, if_neg h2]
  refine Ok.cond (fun h1 => Ok.cond (fun h2 => ?_) (fun h2 => Ok.cond (fun h3 => absurd h3 (by omega)) (fun h3 => ?_))) (fun h1 => Ok.cond (fun h3 => Ok.cond (fun h4 => ?_) (fun h4 => ?_)) (fun h3 => ?_))
  · have hc : cand b = (((kOf b : Nat) : Int), (((qOf b : Nat) : Int), (tagsOf b (nOf b), ([], 0)))) := by
      unfold cand; rw [if_pos (by omega)]
    rw [hc]
    refine Ok.bind (S := fun r => r = (((kOf b : Nat) : Int), (IntKind.wrap .i64 ((qOf b : Nat) : Int), (tagsOf b (nOf b), (([] : List Int), (0 : Int)))))) ?_ (fun r hr => ?_)
    rotate_left
    · subst hr
      exact fin38 _ _ b hb (hpw _ _ _)
    refine Ok.loop (nOf b) (fun i x => x = (b.drop (14 + 5 * i), ((i : Int), (((kOf b : Nat) : Int), (IntKind.wrap .i64 ((qOf b : Nat) : Int), (tagsOf b i, (([] : List Int), (0 : Int)))))))) rfl ?_
    rintro i x hi rfl
    refine Ok.cond (fun hc => ?_) (fun hc => ?_)
    rotate_left
    · simp only at hc
      obtain rfl : i = nOf b := by omega
      exact Ok.inr rfl
    have hi' : i < nOf b := by simp only at hc; omega
    have c1 : m35 (b.drop (14 + 5 * i), ((4 : Int), ())) = some (((val ((b.drop (14 + 5 * i)).take 4) : Nat) : Int), (b.drop (18 + 5 * i), ())) := by
      have := m35_at b hb (14 + 5 * i) 4 (by omega) (by omega)
      rw [show 14 + 5 * i + 4 = 18 + 5 * i by omega] at this
      exact this
    have c2 : m35 (b.drop (18 + 5 * i), ((1 : Int), ())) = some (((val ((b.drop (18 + 5 * i)).take 1) : Nat) : Int), (b.drop (14 + 5 * (i + 1)), ())) := by
      have := m35_at b hb (18 + 5 * i) 1 (by omega) (by omega)
      rw [show 18 + 5 * i + 1 = 14 + 5 * (i + 1) by omega] at this
      exact this
    have v1 := val_lt' ((hb.drop (14 + 5 * i)).take 4) (k := 4) (by simp; omega)
    have hll := tagsOf_len b i
    dsimp only
    rw [c1]
    simp only [Option.bind_some]
    rw [c2]
    simp only [Option.bind_some, List.length_cons, List.length_nil]
    refine Ok.gd (by omega) (Ok.gd (by omega) (Ok.inl ⟨hi', ?_⟩))
    rw [wrapU64 (by omega) (by omega), wrap64 (n := ((val ((b.drop (14 + 5 * i)).take 4) : Nat) : Int)) (by omega) (by omega), tagsOf_succ]
    rfl
  · rw [rest (by omega) (by omega)]
    exact fin38 _ _ b hb (hpw _ _ _)
  · rw [revs (by omega) (by omega)]
    refine Ok.bind (S := fun r => r = (((kOf b : Nat) : Int), (IntKind.wrap .i64 ((qOf b : Nat) : Int), (([] : List (Int × Bool)), (revsOf b (nOf b), (0 : Int)))))) ?_ (fun r hr => ?_)
    rotate_left
    · subst hr
      exact fin38 _ _ b hb (hpw _ _ _)
    refine Ok.loop (nOf b) (fun i x => x = (b.drop (14 + 4 * i), ((i : Int), (((kOf b : Nat) : Int), (IntKind.wrap .i64 ((qOf b : Nat) : Int), (([] : List (Int × Bool)), (revsOf b i, (0 : Int)))))))) rfl ?_
    rintro i x hi rfl
    refine Ok.cond (fun hc => ?_) (fun hc => ?_)
    rotate_left
    · simp only at hc
      obtain rfl : i = nOf b := by omega
      exact Ok.inr rfl
    have hi' : i < nOf b := by simp only at hc; omega
    have c1 : m35 (b.drop (14 + 4 * i), ((4 : Int), ())) = some (((val ((b.drop (14 + 4 * i)).take 4) : Nat) : Int), (b.drop (14 + 4 * (i + 1)), ())) := by
      have := m35_at b hb (14 + 4 * i) 4 (by omega) (by omega)
      rw [show 14 + 4 * i + 4 = 14 + 4 * (i + 1) by omega] at this
      exact this
    have v1 := val_lt' ((hb.drop (14 + 4 * i)).take 4) (k := 4) (by simp; omega)
    have hll := revsOf_len b i
    dsimp only
    rw [c1]
    simp only [Option.bind_some, List.length_cons, List.length_nil]
    refine Ok.gd (by omega) (Ok.gd (by omega) (Ok.inl ⟨hi', ?_⟩))
    rw [wrapU64 (by omega) (by omega), wrap64 (n := ((val ((b.drop (14 + 4 * i)).take 4) : Nat) : Int)) (by omega) (by omega), revsOf_succ]
    rfl
  · rw [rest (by omega) (by omega)]
    exact fin38 _ _ b hb (hpw _ _ _)
  · rw [rest (by omega) (by omega)]
    exact fin38 _ _ b hb (hpw _ _ _)

theorem m44_ok (b : List Int) (hb : Bytes b) : m44 (b, ()) = some (decB b) := by
  apply ok_eq
  unfold m44
  dsimp only
  unfold decB
  refine Ok.ncond (fun h => Ok.some ?_) (fun h => ?_)
  · rw [if_neg (fun h2 => h (by rw [h2]; rfl))]; rfl
  have hl : b.length = 256 := by omega
  rw [if_pos hl]
  refine Ok.gd (by omega) ?_
  have e14 : List.take (Int.toNat 14 - Int.toNat 0) (List.drop (Int.toNat 0) b) = b.take 14 := rfl
  have ht14 : (b.take 14).length = 14 := by rw [List.length_take]; omega
  have hb14 := hb.take 14
  have a1 := m43_ok wok4 (b.take 14) hb14 ht14
  have u2 := un_val (b.take 14) hb14 4 1 (by omega)
  have u3 := un_val (b.take 14) hb14 5 8 (by omega)
  have u4 := un_val (b.take 14) hb14 13 1 (by omega)
  have d2 : ((b.take 14).drop 4).take 1 = (b.drop 4).take 1 := by rw [List.drop_take, List.take_take]; rfl
  have d3 : ((b.take 14).drop 5).take 8 = (b.drop 5).take 8 := by rw [List.drop_take, List.take_take]; rfl
  have d4 : ((b.take 14).drop 13).take 1 = (b.drop 13).take 1 := by rw [List.drop_take, List.take_take]; rfl
  rw [d2] at u2
  rw [d3] at u3
  rw [d4] at u4
  have b1 : m43 ([32, 8, 64, 8], (b.take 14, ())) = some ([((un (b.take 14) (8 * 0) (8 * 4) : Nat) : Int), ((un (b.take 14) (8 * 4) (8 * 1) : Nat) : Int), ((un (b.take 14) (8 * 5) (8 * 8) : Nat) : Int), ((un (b.take 14) (8 * 13) (8 * 1) : Nat) : Int)], (0, ())) := a1
  rw [u2, u3, u4] at b1
  rw [e14, b1]
  simp only [Option.bind_some]
  generalize un (b.take 14) (8 * 0) (8 * 4) = z at *
  have f1 : List.getD [(z : Int), ((val ((b.drop 4).take 1) : Nat) : Int), ((val ((b.drop 5).take 8) : Nat) : Int), ((val ((b.drop 13).take 1) : Nat) : Int)] (Int.toNat 1) 0 = ((kOf b : Nat) : Int) := rfl
  have f2 : List.getD [(z : Int), ((val ((b.drop 4).take 1) : Nat) : Int), ((val ((b.drop 5).take 8) : Nat) : Int), ((val ((b.drop 13).take 1) : Nat) : Int)] (Int.toNat 2) 0 = ((qOf b : Nat) : Int) := rfl
  have f3 : List.getD [(z : Int), ((val ((b.drop 4).take 1) : Nat) : Int), ((val ((b.drop 5).take 8) : Nat) : Int), ((val ((b.drop 13).take 1) : Nat) : Int)] (Int.toNat 3) 0 = ((nOf b : Nat) : Int) := rfl
  have hk := k_lt hb
  have hq := q_lt hb
  have hn := n_lt hb
  have wk : IntKind.wrap .i64 ((kOf b : Nat) : Int) = ((kOf b : Nat) : Int) := wrap64 (by omega) (by omega)
  have wn : IntKind.wrap .i64 ((nOf b : Nat) : Int) = ((nOf b : Nat) : Int) := wrap64 (by omega) (by omega)
  have hpw := plain_wrap ((kOf b : Nat) : Int) (qOf b) hq
  simp only [f1, f2, f3, wk, wn, List.length_cons, List.length_nil]
  refine Ok.gd (by omega) (Ok.cond (fun h => Ok.some ?_) (fun hq2 => Ok.gd (by omega) (Ok.gd (by omega) (Ok.gd (by omega) ?_))))
  · unfold fin
    rw [if_neg]; · rfl
    rintro ⟨hp, _⟩
    have h1 := (plain_facts hp).2.1
    have h2 := cand_q b
    omega
  have revs : kOf b = 3 → nOf b ≤ 60 → cand b = (((kOf b : Nat) : Int), (((qOf b : Nat) : Int), ([], (revsOf b (nOf b), 0)))) := fun h1 h2 => by
    unfold cand; rw [if_neg (by omega), if_pos ⟨h1, h2⟩]
  have rest : ¬ (kOf b = 1 ∧ nOf b ≤ 48) → ¬ (kOf b = 3 ∧ nOf b ≤ 60) → cand b = (((kOf b : Nat) : Int), (((qOf b : Nat) : Int), ([], ([], ((nOf b : Nat) : Int))))) := fun h1 h2 => by
    unfold cand; rw [if_neg h1, if_neg h2]
  refine Ok.cond (fun h1 => Ok.cond (fun h2 => ?_) (fun h2 => Ok.cond (fun h3 => absurd h3 (by omega)) (fun h3 => ?_))) (fun h1 => Ok.cond (fun h3 => Ok.cond (fun h4 => ?_) (fun h4 => ?_)) (fun h3 => ?_))
  · have hc : cand b = (((kOf b : Nat) : Int), (((qOf b : Nat) : Int), (tagsOf b (nOf b), ([], 0)))) := by
      unfold cand; rw [if_pos (by omega)]
    rw [hc]
    refine Ok.bind (S := fun r => r = (((kOf b : Nat) : Int), (IntKind.wrap .i64 ((qOf b : Nat) : Int), (tagsOf b (nOf b), (([] : List Int), (0 : Int)))))) ?_ (fun r hr => ?_)
    rotate_left
    · subst hr
      exact fin44 _ _ b hb (by rw [tagsOf_len]; omega) (by simp) (hpw _ _ _)
    refine Ok.loop (nOf b) (fun i x => x = ((i : Int), (((kOf b : Nat) : Int), (IntKind.wrap .i64 ((qOf b : Nat) : Int), (tagsOf b i, (([] : List Int), (0 : Int))))))) rfl ?_
    rintro i x hi rfl
    refine Ok.cond (fun hc => ?_) (fun hc => ?_)
    rotate_left
    · simp only at hc
      obtain rfl : i = nOf b := by omega
      exact Ok.inr rfl
    have hi' : i < nOf b := by simp only at hc; omega
    have w1 : IntKind.wrap .i64 ((5 : Int) * (i : Int)) = ((5 * i : Nat) : Int) := by rw [wrap64 (by omega) (by omega)]; push_cast; rfl
    have w2 : IntKind.wrap .i64 ((14 : Int) + ((5 * i : Nat) : Int)) = ((14 + 5 * i : Nat) : Int) := by rw [wrap64 (by omega) (by omega)]; push_cast; rfl
    have w3 : IntKind.wrap .i64 ((19 : Int) + ((5 * i : Nat) : Int)) = ((19 + 5 * i : Nat) : Int) := by rw [wrap64 (by omega) (by omega)]; push_cast; rfl
    simp only [w1, w2, w3, Int.toNat_natCast]
    refine Ok.gd (by omega) (Ok.gd (by omega) (Ok.gd (by omega) ?_))
    have e5 : 19 + 5 * i - (14 + 5 * i) = 5 := by omega
    have ht5 : ((b.drop (14 + 5 * i)).take 5).length = 5 := by rw [List.length_take, List.length_drop]; omega
    have hb5 := (hb.drop (14 + 5 * i)).take 5
    have g1 := m43_ok wok2 ((b.drop (14 + 5 * i)).take 5) hb5 ht5
    have p1 := un_val ((b.drop (14 + 5 * i)).take 5) hb5 0 4 (by omega)
    have p2 := un_val ((b.drop (14 + 5 * i)).take 5) hb5 4 1 (by omega)
    have o1 : (((b.drop (14 + 5 * i)).take 5).drop 0).take 4 = (b.drop (14 + 5 * i)).take 4 := by rw [List.drop_zero, List.take_take]; rfl
    have o2 : (((b.drop (14 + 5 * i)).take 5).drop 4).take 1 = (b.drop (18 + 5 * i)).take 1 := by rw [List.drop_take, List.take_take, List.drop_drop, show 14 + 5 * i + 4 = 18 + 5 * i by omega]; rfl
    rw [o1] at p1
    rw [o2] at p2
    have g2 : m43 ([32, 8], ((b.drop (14 + 5 * i)).take 5, ())) = some ([((un ((b.drop (14 + 5 * i)).take 5) (8 * 0) (8 * 4) : Nat) : Int), ((un ((b.drop (14 + 5 * i)).take 5) (8 * 4) (8 * 1) : Nat) : Int)], (0, ())) := g1
    rw [p1, p2] at g2
    have v1 := val_lt' ((hb.drop (14 + 5 * i)).take 4) (k := 4) (by simp; omega)
    have hll := tagsOf_len b i
    rw [e5, g2]
    simp only [Option.bind_some, List.length_cons, List.length_nil]
    refine Ok.gd (by omega) (Ok.gd (by omega) (Ok.gd (by omega) (Ok.gd (by omega) (Ok.inl ⟨hi', ?_⟩))))
    have j1 : List.getD [((val ((b.drop (14 + 5 * i)).take 4) : Nat) : Int), ((val ((b.drop (18 + 5 * i)).take 1) : Nat) : Int)] (Int.toNat 0) 0 = ((val ((b.drop (14 + 5 * i)).take 4) : Nat) : Int) := rfl
    rw [j1, wsucc (by omega), wrap64 (n := ((val ((b.drop (14 + 5 * i)).take 4) : Nat) : Int)) (by omega) (by omega), tagsOf_succ]
    rfl
  · rw [rest (by omega) (by omega)]
    exact fin44 _ _ b hb (by simp) (by simp) (hpw _ _ _)
  · rw [revs (by omega) (by omega)]
    refine Ok.bind (S := fun r => r = (((kOf b : Nat) : Int), (IntKind.wrap .i64 ((qOf b : Nat) : Int), (([] : List (Int × Bool)), (revsOf b (nOf b), (0 : Int)))))) ?_ (fun r hr => ?_)
    rotate_left
    · subst hr
      exact fin44 _ _ b hb (by simp) (by rw [revsOf_len]; omega) (hpw _ _ _)
    refine Ok.loop (nOf b) (fun i x => x = ((i : Int), (((kOf b : Nat) : Int), (IntKind.wrap .i64 ((qOf b : Nat) : Int), (([] : List (Int × Bool)), (revsOf b i, (0 : Int))))))) rfl ?_
    rintro i x hi rfl
    refine Ok.cond (fun hc => ?_) (fun hc => ?_)
    rotate_left
    · simp only at hc
      obtain rfl : i = nOf b := by omega
      exact Ok.inr rfl
    have hi' : i < nOf b := by simp only at hc; omega
    have w1 : IntKind.wrap .i64 ((4 : Int) * (i : Int)) = ((4 * i : Nat) : Int) := by rw [wrap64 (by omega) (by omega)]; push_cast; rfl
    have w2 : IntKind.wrap .i64 ((14 : Int) + ((4 * i : Nat) : Int)) = ((14 + 4 * i : Nat) : Int) := by rw [wrap64 (by omega) (by omega)]; push_cast; rfl
    have w3 : IntKind.wrap .i64 ((18 : Int) + ((4 * i : Nat) : Int)) = ((18 + 4 * i : Nat) : Int) := by rw [wrap64 (by omega) (by omega)]; push_cast; rfl
    simp only [w1, w2, w3, Int.toNat_natCast]
    refine Ok.gd (by omega) (Ok.gd (by omega) (Ok.gd (by omega) ?_))
    have e5 : 18 + 4 * i - (14 + 4 * i) = 4 := by omega
    have ht5 : ((b.drop (14 + 4 * i)).take 4).length = 4 := by rw [List.length_take, List.length_drop]; omega
    have hb5 := (hb.drop (14 + 4 * i)).take 4
    have g1 := m43_ok wok1 ((b.drop (14 + 4 * i)).take 4) hb5 ht5
    have p1 := un_val ((b.drop (14 + 4 * i)).take 4) hb5 0 4 (by omega)
    have o1 : (((b.drop (14 + 4 * i)).take 4).drop 0).take 4 = (b.drop (14 + 4 * i)).take 4 := by rw [List.drop_zero, List.take_take]; rfl
    rw [o1] at p1
    have g2 : m43 ([32], ((b.drop (14 + 4 * i)).take 4, ())) = some ([((un ((b.drop (14 + 4 * i)).take 4) (8 * 0) (8 * 4) : Nat) : Int)], (0, ())) := g1
    rw [p1] at g2
    have v1 := val_lt' ((hb.drop (14 + 4 * i)).take 4) (k := 4) (by simp; omega)
    have hll := revsOf_len b i
    rw [e5, g2]
    simp only [Option.bind_some, List.length_cons, List.length_nil]
    refine Ok.gd (by omega) (Ok.gd (by omega) (Ok.gd (by omega) (Ok.inl ⟨hi', ?_⟩)))
    have j1 : List.getD [((val ((b.drop (14 + 4 * i)).take 4) : Nat) : Int)] (Int.toNat 0) 0 = ((val ((b.drop (14 + 4 * i)).take 4) : Nat) : Int) := rfl
    rw [j1, wsucc (by omega), wrap64 (n := ((val ((b.drop (14 + 4 * i)).take 4) : Nat) : Int)) (by omega) (by omega), revsOf_succ]
    rfl
  · rw [rest (by omega) (by omega)]
    exact fin44 _ _ b hb (by simp) (by simp) (hpw _ _ _)
  · rw [rest (by omega) (by omega)]
    exact fin44 _ _ b hb (by simp) (by simp) (hpw _ _ _)
end Go.Proofs.Ytjleeabhpfmhaaa
end

section
namespace Go.Proofs.Ytjleeabhpfmhaaa
open Go Go.Proofs.AM

abbrev TX := Int × ((List (Int × (List Int))) × (List Int))

def num (t : TX) (j : Nat) : Int := if j < t.2.1.length then (t.2.1.getD j (0, [])).1 else t.2.2.getD (j - t.2.1.length) 0
def tot (t : TX) : Nat := t.2.1.length + t.2.2.length
def size (t : TX) : Nat := (t.2.2.length + 59) / 60 + (t.2.1.length + 47) / 48 + t.2.1.length + 1

def GoodT (t : TX) (i : Nat) : Prop :=
  (∀ j, j < i → isBlk (num t j)) ∧ (∀ j, j < i → j < t.2.1.length → (t.2.1.getD j (0, [])).2.length = 256) ∧ (∀ j k, j < k → k < i → num t j ≠ num t k)

theorem GoodT.zero (t : TX) : GoodT t 0 := ⟨fun j h => by omega, fun j h => by omega, fun j k _ h => by omega⟩
theorem GoodT.mono {t : TX} {i j : Nat} (h : GoodT t i) (hj : j ≤ i) : GoodT t j := ⟨fun k hk => h.1 k (by omega), fun k hk => h.2.1 k (by omega), fun k m h1 h2 => h.2.2 k m h1 (by omega)⟩
theorem GoodT.succ {t : TX} {i : Nat} (h : GoodT t i) (h1 : isBlk (num t i)) (h2 : i < t.2.1.length → (t.2.1.getD i (0, [])).2.length = 256) (h3 : ∀ j, j < i → num t j ≠ num t i) : GoodT t (i + 1) := by
  refine ⟨fun j hj => ?_, fun j hj hw => ?_, fun j k hjk hk => ?_⟩
  · by_cases e : j = i
    · subst e; exact h1
    · exact h.1 j (by omega)
  · by_cases e : j = i
    · subst e; exact h2 hw
    · exact h.2.1 j (by omega) hw
  · by_cases e : k = i
    · subst e; exact h3 j hjk
    · exact h.2.2 j k hjk (by omega)

def okT (t : TX) : Prop := (1 ≤ t.1 ∧ t.1 ≤ 281474976710656) ∧ tot t ≠ 0 ∧ size t ≤ 63 ∧ GoodT t (tot t)

theorem okT_facts {t : TX} (h : okT t) : t.2.1.length ≤ 62 ∧ t.2.2.length ≤ 3720 := by
  have := h.2.2.1
  unfold size at this
  omega

theorem tdiv60 (p : Nat) : Int.tdiv (p : Int) 60 = ((p / 60 : Nat) : Int) := rfl
theorem tdiv48 (p : Nat) : Int.tdiv (p : Int) 48 = ((p / 48 : Nat) : Int) := rfl

theorem ceil60 {n : Nat} (h : n ≤ 140737488355328) : IntKind.wrap .i64 (Int.tdiv (IntKind.wrap .i64 (IntKind.wrap .i64 ((n : Int) + 60) - 1)) 60) = (((n + 59) / 60 : Nat) : Int) := by
  rw [wrap64 (n := (n : Int) + 60) (by omega) (by omega), show (n : Int) + 60 - 1 = ((n + 59 : Nat) : Int) by omega, wrap64 (n := ((n + 59 : Nat) : Int)) (by omega) (by omega), tdiv60, wrap64 (by omega) (by omega)]
theorem ceil48 {n : Nat} (h : n ≤ 140737488355328) : IntKind.wrap .i64 (Int.tdiv (IntKind.wrap .i64 (IntKind.wrap .i64 ((n : Int) + 48) - 1)) 48) = (((n + 47) / 48 : Nat) : Int) := by
  rw [wrap64 (n := (n : Int) + 48) (by omega) (by omega), show (n : Int) + 48 - 1 = ((n + 47 : Nat) : Int) by omega, wrap64 (n := ((n + 47 : Nat) : Int)) (by omega) (by omega), tdiv48, wrap64 (by omega) (by omega)]

theorem m73_ok (t : TX) (hw : t.2.1.length ≤ 140737488355328) (hr : t.2.2.length ≤ 140737488355328) : m73 (t, ()) = some (((size t : Nat) : Int), ()) := by
  unfold m73 m87
  simp only [show ¬ ((60 : Int) = 0) by decide, show ¬ ((48 : Int) = 0) by decide, if_false, Option.bind_some]
  rw [ceil60 hr, ceil48 hw]
  unfold size
  rw [wrap64 (n := (((t.2.2.length + 59) / 60 : Nat) : Int) + (((t.2.1.length + 47) / 48 : Nat) : Int)) (by omega) (by omega), wrap64 (n := (((t.2.2.length + 59) / 60 : Nat) : Int) + (((t.2.1.length + 47) / 48 : Nat) : Int) + ((t.2.1.length : Nat) : Int)) (by omega) (by omega),
    wrap64 (n := (((t.2.2.length + 59) / 60 : Nat) : Int) + (((t.2.1.length + 47) / 48 : Nat) : Int) + ((t.2.1.length : Nat) : Int) + 1) (by omega) (by omega)]
  push_cast; rfl

theorem m56_ok (t : TX) (hw : t.2.1.length ≤ 140737488355328) (hr : t.2.2.length ≤ 140737488355328) : m56 (t, ()) = some (((size t : Nat) : Int), ()) := by
  unfold m56 m79
  simp only [show ¬ ((60 : Int) = 0) by decide, show ¬ ((48 : Int) = 0) by decide, if_false, Option.bind_some]
  rw [ceil60 hr, ceil48 hw]
  unfold size
  rw [wrap64 (n := (((t.2.2.length + 59) / 60 : Nat) : Int) + (((t.2.1.length + 47) / 48 : Nat) : Int)) (by omega) (by omega), wrap64 (n := (((t.2.2.length + 59) / 60 : Nat) : Int) + (((t.2.1.length + 47) / 48 : Nat) : Int) + ((t.2.1.length : Nat) : Int)) (by omega) (by omega),
    wrap64 (n := (((t.2.2.length + 59) / 60 : Nat) : Int) + (((t.2.1.length + 47) / 48 : Nat) : Int) + ((t.2.1.length : Nat) : Int) + 1) (by omega) (by omega)]
  push_cast; rfl

def Seen (t : TX) (es : List (Int × Bool)) (i : Nat) : Prop := ∀ n : Int, (ifind es n).getD false = true ↔ ∃ j, j < i ∧ num t j = n

theorem Seen.zero (t : TX) : Seen t [] 0 := fun n => by simp [ifind]
theorem Seen.succ {t : TX} {es : List (Int × Bool)} {i : Nat} (h : Seen t es i) : Seen t (mset (false, .int .i64) es (num t i) true) (i + 1) := by
  intro n
  rw [mset_ifind]
  by_cases e : n = num t i
  · rw [if_pos e]
    exact ⟨fun _ => ⟨i, by omega, e.symm⟩, fun _ => rfl⟩
  · rw [if_neg e, h n]
    constructor
    · rintro ⟨j, hj, e2⟩; exact ⟨j, by omega, e2⟩
    · rintro ⟨j, hj, e2⟩
      refine ⟨j, ?_, e2⟩
      by_cases e3 : j = i
      · subst e3; exact absurd e2.symm e
      · omega

theorem num_w {t : TX} {i : Nat} (h : i < t.2.1.length) : num t i = (t.2.1.getD i (0, [])).1 := by unfold num; rw [if_pos h]
theorem num_r {t : TX} (i : Nat) : num t (t.2.1.length + i) = t.2.2.getD i 0 := by unfold num; rw [if_neg (by omega), Nat.add_sub_cancel_left]

open Classical in
theorem m51_ok (t : TX) (hw : t.2.1.length ≤ 140737488355328) (hr : t.2.2.length ≤ 140737488355328) : m51 (t, ()) = some (if okT t then (0, ()) else (171, ())) := by
  apply ok_eq
  unfold m51
  rw [m58_ok, m73_ok t hw hr]
  dsimp only [Option.bind_some]
  refine Ok.ncond (fun h => Ok.some ?_) (fun hq => ?_)
  · rw [if_neg (fun h2 => h h2.1)]
  have wt : IntKind.wrap .i64 (((t.2.1.length : Nat) : Int) + ((t.2.2.length : Nat) : Int)) = ((tot t : Nat) : Int) := by rw [wrap64 (by omega) (by omega)]; unfold tot; push_cast; rfl
  rw [wt]
  refine Ok.cond (fun h => Ok.some ?_) (fun ht => Ok.cond (fun h => Ok.some ?_) (fun hs => ?_))
  · rw [if_neg (fun h2 => h2.2.1 (by omega))]
  · rw [if_neg (fun h2 => by have := h2.2.2.1; omega)]
  refine Ok.bind (S := fun r => (∃ es, r = .inl es ∧ GoodT t t.2.1.length ∧ Seen t es t.2.1.length) ∨ ((∃ es, r = .inr (171, es)) ∧ ¬ okT t)) ?_ ?_
  · refine Ok.loop t.2.1.length (fun i x => ∃ es, x = ((i : Int), es) ∧ GoodT t i ∧ Seen t es i) ⟨[], rfl, GoodT.zero t, Seen.zero t⟩ ?_
    rintro i x hi ⟨es, rfl, hg, hse⟩
    refine Ok.cond (fun hc => ?_) (fun hc => ?_)
    rotate_left
    · simp only at hc
      obtain rfl : i = t.2.1.length := by omega
      exact Ok.inr (.inl ⟨es, rfl, hg, hse⟩)
    have hi' : i < t.2.1.length := by simp only at hc; omega
    refine Ok.gd (by simp only; omega) (Ok.gd hc ?_)
    simp only [Int.toNat_natCast, mget_ifind]
    rw [← num_w hi', m75_ok]
    simp only [Option.bind_some]
    have bad : ¬ GoodT t (i + 1) → ¬ okT t := fun h h2 => h (h2.2.2.2.mono (by unfold tot; omega))
    refine Ok.cond (fun hb => Ok.condb (fun hsn => ?_) (fun hsn => Ok.ncond (fun hl => ?_) (fun hl => ?_))) (fun hb => ?_)
    · refine Ok.inr (.inr ⟨⟨_, rfl⟩, bad fun h => ?_⟩)
      obtain ⟨j, hj, e⟩ := (hse _).1 (by simpa using hsn)
      exact h.2.2 j i hj (by omega) e
    · exact Ok.inr (.inr ⟨⟨_, rfl⟩, bad fun h => hl (by rw [h.2.1 i (by omega) hi']; rfl)⟩)
    · refine Ok.inl ⟨hi', _, ?_, hg.succ hb (fun _ => by omega) (fun j hj e => ?_), hse.succ⟩
      · rw [wsucc (by omega)]
      · have := (hse _).2 ⟨j, hj, e⟩
        simp [this] at hsn
    · exact Ok.inr (.inr ⟨⟨_, rfl⟩, bad fun h => hb (h.1 i (by omega))⟩)
  rintro r (⟨es, rfl, hg, hse⟩ | ⟨⟨es, rfl⟩, hno⟩)
  rotate_left
  · exact Ok.some (by rw [if_neg hno])
  show Ok (Option.bind _ _) _
  refine Ok.bind (S := fun r => (∃ es, r = .inl es ∧ okT t) ∨ ((∃ es, r = .inr (171, es)) ∧ ¬ okT t)) ?_ ?_
  · refine Ok.loop t.2.2.length (fun i x => ∃ es, x = ((i : Int), es) ∧ GoodT t (t.2.1.length + i) ∧ Seen t es (t.2.1.length + i)) ⟨es, rfl, hg, hse⟩ ?_
    rintro i x hi ⟨es, rfl, hg, hse⟩
    refine Ok.cond (fun hc => ?_) (fun hc => ?_)
    rotate_left
    · simp only at hc
      obtain rfl : i = t.2.2.length := by omega
      exact Ok.inr (.inl ⟨es, rfl, hq, by omega, by omega, hg⟩)
    have hi' : i < t.2.2.length := by simp only at hc; omega
    refine Ok.gd (by simp only; omega) (Ok.gd hc ?_)
    simp only [Int.toNat_natCast, mget_ifind]
    rw [← num_r, m75_ok]
    simp only [Option.bind_some]
    have bad : ¬ GoodT t (t.2.1.length + i + 1) → ¬ okT t := fun h h2 => h (h2.2.2.2.mono (by unfold tot; omega))
    refine Ok.cond (fun hb => Ok.condb (fun hsn => ?_) (fun hsn => ?_)) (fun hb => ?_)
    · refine Ok.inr (.inr ⟨⟨_, rfl⟩, bad fun h => ?_⟩)
      obtain ⟨j, hj, e⟩ := (hse _).1 (by simpa using hsn)
      exact h.2.2 j (t.2.1.length + i) hj (by omega) e
    · refine Ok.inl ⟨hi', _, ?_, hg.succ hb (fun h => by omega) (fun j hj e => ?_), hse.succ⟩
      · rw [wsucc (by omega)]
      · have := (hse _).2 ⟨j, hj, e⟩
        simp [this] at hsn
    · exact Ok.inr (.inr ⟨⟨_, rfl⟩, bad fun h => hb (h.1 (t.2.1.length + i) (by omega))⟩)
  rintro r (⟨es, rfl, h⟩ | ⟨⟨es, rfl⟩, hno⟩)
  · exact Ok.some (by rw [if_pos h])
  · exact Ok.some (by rw [if_neg hno])

def SeenB (t : TX) (l : List Bool) (i : Nat) : Prop := l.length = 8192 ∧ ∀ n : Nat, l.getD n false = true ↔ ∃ j, j < i ∧ num t j = (n : Int)

theorem getD_setB {l : List Bool} {i j : Nat} {y : Bool} (h : i < l.length) : (l.set i y).getD j false = if j = i then y else l.getD j false := by
  rw [List.getD_eq_getElem?_getD, List.getElem?_set]
  by_cases e : i = j
  · subst e; simp [h]
  · rw [if_neg e, if_neg (fun h => e h.symm), List.getD_eq_getElem?_getD]

theorem SeenB.zero (t : TX) : SeenB t (List.replicate (Int.toNat 8192) false) 0 := by
  refine ⟨List.length_replicate.trans (by decide), fun n => ⟨fun h => ?_, fun ⟨j, hj, _⟩ => by omega⟩⟩
  rw [List.getD_eq_getElem?_getD, List.getElem?_replicate] at h
  split at h <;> simp at h

theorem SeenB.succ {t : TX} {l : List Bool} {i : Nat} (h : SeenB t l i) (hb : isBlk (num t i)) : SeenB t (l.set (num t i).toNat true) (i + 1) := by
  obtain ⟨b0, b1⟩ := hb
  refine ⟨by rw [List.length_set]; exact h.1, fun n => ?_⟩
  rw [getD_setB (by rw [h.1]; omega)]
  by_cases e : n = (num t i).toNat
  · rw [if_pos e]
    exact ⟨fun _ => ⟨i, by omega, by omega⟩, fun _ => rfl⟩
  · rw [if_neg e, h.2 n]
    constructor
    · rintro ⟨j, hj, e2⟩; exact ⟨j, by omega, e2⟩
    · rintro ⟨j, hj, e2⟩
      refine ⟨j, ?_, e2⟩
      by_cases e3 : j = i
      · subst e3; omega
      · omega

open Classical in
theorem m31_ok (t : TX) (hw : t.2.1.length ≤ 140737488355328) (hr : t.2.2.length ≤ 140737488355328) : m31 (t, ()) = some (if okT t then (0, ()) else (171, ())) := by
  apply ok_eq
  unfold m31
  rw [m56_ok t hw hr]
  dsimp only [Option.bind_some]
  have wt : IntKind.wrap .i64 (((t.2.1.length : Nat) : Int) + ((t.2.2.length : Nat) : Int)) = ((tot t : Nat) : Int) := by rw [wrap64 (by omega) (by omega)]; unfold tot; push_cast; rfl
  rw [wt]
  refine Ok.cond (fun h => Ok.some ?_) (fun h1 => Ok.cond (fun h => Ok.some ?_) (fun h2 => Ok.cond (fun h => Ok.some ?_) (fun ht => Ok.cond (fun h => Ok.some ?_) (fun hs => Ok.gd (by decide) ?_))))
  · rw [if_neg (fun h2 => by have := h2.1; omega)]
  · rw [if_neg (fun h2 => by have := h2.1; omega)]
  · rw [if_neg (fun h2 => h2.2.1 (by omega))]
  · rw [if_neg (fun h2 => by have := h2.2.2.1; omega)]
  refine Ok.bind (S := fun r => (∃ es, r = .inl es ∧ okT t) ∨ ((∃ es, r = .inr (171, es)) ∧ ¬ okT t)) ?_ ?_
  rotate_left
  · rintro r (⟨es, rfl, h⟩ | ⟨⟨es, rfl⟩, hno⟩)
    · exact Ok.some (by rw [if_pos h])
    · exact Ok.some (by rw [if_neg hno])
  refine Ok.loop (tot t) (fun i x => ∃ es, x = ((i : Int), es) ∧ GoodT t i ∧ SeenB t es i) ⟨_, rfl, GoodT.zero t, SeenB.zero t⟩ ?_
  rintro i x hi ⟨es, rfl, hg, hse⟩
  refine Ok.cond (fun hc => ?_) (fun hc => ?_)
  rotate_left
  · simp only at hc
    obtain rfl : i = tot t := by omega
    exact Ok.inr (.inl ⟨es, rfl, ⟨by omega, by omega⟩, by omega, by omega, hg⟩)
  have hi' : i < tot t := by simp only at hc; omega
  have bad : ¬ GoodT t (i + 1) → ¬ okT t := fun h h2 => h (h2.2.2.2.mono (by omega))
  refine Ok.cond (fun hiw => ?_) (fun hiw => ?_)
  · have hiw' : i < t.2.1.length := by simp only at hiw; omega
    refine Ok.gd (by simp only; omega) (Ok.gd hiw (Ok.gd (by simp only; omega) (Ok.gd hiw ?_)))
    simp only [Int.toNat_natCast]
    simp only [← num_w hiw']
    rw [m57_ok]
    simp only [Option.bind_some]
    refine Ok.ncond (fun hl => ?_) (fun hl => Ok.ncond (fun hb => ?_) (fun hb => ?_))
    · exact Ok.inr (.inr ⟨⟨_, rfl⟩, bad fun h => hl (by rw [h.2.1 i (by omega) hiw']; rfl)⟩)
    · exact Ok.inr (.inr ⟨⟨_, rfl⟩, bad fun h => hb (h.1 i (by omega))⟩)
    · have hb0 := hb.1
      have hb1 := hb.2
      have hlen := hse.1
      refine Ok.gd hb0 (Ok.gd (by omega) (Ok.gd (by omega) (Ok.condb (fun hsn => ?_) (fun hsn => Ok.gd hb0 (Ok.gd (by omega) (Ok.gd (by omega) ?_))))))
      · refine Ok.inr (.inr ⟨⟨_, rfl⟩, bad fun h => ?_⟩)
        obtain ⟨j, hj, e⟩ := (hse.2 _).1 hsn
        exact h.2.2 j i hj (by omega) (by omega)
      · refine Ok.inl ⟨hi', _, ?_, hg.succ hb (fun _ => by omega) (fun j hj e => ?_), hse.succ hb⟩
        · rw [wsucc (by unfold tot at hi'; omega)]
        · have := (hse.2 (num t i).toNat).2 ⟨j, hj, by omega⟩
          rw [this] at hsn
          simp at hsn
  · have hiw' : t.2.1.length ≤ i := by simp only at hiw; omega
    obtain ⟨m, rfl⟩ : ∃ m, i = t.2.1.length + m := ⟨i - t.2.1.length, by omega⟩
    have hm : m < t.2.2.length := by unfold tot at hi'; omega
    have wm : IntKind.wrap .i64 (((t.2.1.length + m : Nat) : Int) - ((t.2.1.length : Nat) : Int)) = (m : Int) := by rw [wrap64 (by omega) (by omega)]; omega
    dsimp only
    rw [wm]
    refine Ok.gd (by omega) (Ok.gd (by omega) ?_)
    simp only [Int.toNat_natCast]
    simp only [← num_r]
    rw [m57_ok]
    simp only [Option.bind_some]
    refine Ok.ncond (fun hb => ?_) (fun hb => ?_)
    · exact Ok.inr (.inr ⟨⟨_, rfl⟩, bad fun h => hb (h.1 _ (by omega))⟩)
    · have hb0 := hb.1
      have hb1 := hb.2
      have hlen := hse.1
      refine Ok.gd hb0 (Ok.gd (by omega) (Ok.gd (by omega) (Ok.condb (fun hsn => ?_) (fun hsn => Ok.gd hb0 (Ok.gd (by omega) (Ok.gd (by omega) ?_))))))
      · refine Ok.inr (.inr ⟨⟨_, rfl⟩, bad fun h => ?_⟩)
        obtain ⟨j, hj, e⟩ := (hse.2 _).1 hsn
        exact h.2.2 j (t.2.1.length + m) hj (by omega) (by omega)
      · refine Ok.inl ⟨hi', _, ?_, hg.succ hb (fun h => by omega) (fun j hj e => ?_), hse.succ hb⟩
        · rw [wsucc (by unfold tot at hi'; omega)]
        · have := (hse.2 (num t (t.2.1.length + m)).toNat).2 ⟨j, hj, by omega⟩
          rw [this] at hsn
          simp at hsn
end Go.Proofs.Ytjleeabhpfmhaaa
end

section
namespace Go.Proofs.Ytjleeabhpfmhaaa
open Go Go.Proofs.AM

def MG : List Int := [83, 76, 74, 33]

theorem MG_bytes : Bytes MG := by unfold Bytes MG; decide

theorem m52_ok (l : List Int) (hl : l.length ≤ 140737488355328) : m52 (l, ()) = some (l, ()) := by
  have e2 : gd ((((List.length ([] : List Int)) + (List.length l)) * 1) ≤ 140737488355328) (gd (((List.length ([] : List Int)) + (List.length l)) ≤ 140737488355328) (some ((([] : List Int) ++ l), ()))) = some (l, ()) := by
    rw [gd_pos (by simp; omega), gd_pos (by simp; omega)]; rfl
  have e1 : (bif (decide ((((List.length l) : Nat) : Int) = (0 : Int))) then
      (some (([] : List Int), ()))
    else
      (gd ((((List.length ([] : List Int)) + (List.length l)) * 1) ≤ 140737488355328) (gd (((List.length ([] : List Int)) + (List.length l)) ≤ 140737488355328) (some ((([] : List Int) ++ l), ()))))) = some (l, ()) := by
    rw [e2]
    by_cases h : ((l.length : Nat) : Int) = 0
    · have : l = [] := List.length_eq_zero_iff.1 (by omega)
      rw [decide_eq_true h, this]; rfl
    · rw [decide_eq_false h]; rfl
  unfold m52
  dsimp only
  rw [e1, e2]
  unfold both
  rw [if_pos rfl]

theorem m63_ok : m63 () = some (MG, ()) := by
  unfold m63
  have b1 : m61 ([], ((1397508641 : Int), ((4 : Int), ()))) = some ([] ++ be 1397508641 4) := m61_ok [] 1397508641 4 (by omega) (by simp)
  rw [b1]; rfl

def esc (b : List Int) : List Int × Bool := if b.take 4 = MG then (List.replicate 4 0 ++ b.drop 4, true) else (b, false)
def unesc (b : List Int) (e : Bool) : List Int := if e = true ∧ 4 ≤ b.length then MG ++ b.drop 4 else b

theorem esc_bytes {b : List Int} (h : Bytes b) : Bytes (esc b).1 := by
  unfold esc
  split
  · exact (Bytes.zeros 4).app (h.drop 4)
  · exact h
theorem unesc_bytes {b : List Int} {e : Bool} (h : Bytes b) : Bytes (unesc b e) := by
  unfold unesc
  split
  · exact MG_bytes.app (h.drop 4)
  · exact h
theorem unesc_len {b : List Int} {e : Bool} : (unesc b e).length = b.length := by
  unfold unesc
  split
  · rename_i h
    simp [MG]; omega
  · rfl
theorem unesc_esc (b : List Int) : unesc (esc b).1 (esc b).2 = b := by
  unfold esc
  split
  · rename_i h
    have := congrArg List.length h
    simp [MG] at this
    unfold unesc
    rw [if_pos ⟨rfl, by simp⟩]
    show MG ++ (List.replicate 4 0 ++ b.drop 4).drop 4 = b
    rw [List.drop_append, ← h]
    simp
  · unfold unesc
    rw [if_neg (by simp)]

theorem m67_ok (b : List Int) (hb : Bytes b) (hl : b.length ≤ 140737488355328) : m67 (b, ()) = some ((esc b).1, ((esc b).2, ())) := by
  apply ok_eq
  unfold m67
  rw [m52_ok b hl]
  simp only [Option.bind_some]
  rw [m63_ok]
  simp only [Option.bind_some]
  have h85 : Ok (m85 (b, (MG, ()))) (fun r => r.1 = true ↔ b.take 4 = MG) := by
    unfold m85
    dsimp only
    have hM : MG.length = 4 := rfl
    rw [hM]
    refine Ok.cond (fun h => ?_) (fun h => Ok.some ⟨fun h2 => by simp at h2, fun h2 => ?_⟩)
    · refine Ok.gd (by omega) (Ok.gd (by omega) ?_)
      unfold m37
      exact Ok.some (ofNums_inj (hb.take 4) MG_bytes)
    · have := congrArg List.length h2
      simp [MG] at this
      omega
  refine Ok.bind h85 fun r hr => ?_
  unfold esc
  refine Ok.condb (fun h => Ok.some ?_) (fun h => ?_)
  · rw [if_neg (fun h2 => by rw [hr.2 h2] at h; simp at h)]
  · have h2 := hr.1 (by simpa using h)
    have := congrArg List.length h2
    simp [MG] at this
    rw [if_pos h2]
    refine Ok.gd (by omega) (Ok.gd ?_ (Ok.some ?_))
    · show 0 + (4 - 0) ≤ b.length
      omega
    · rfl

theorem set_mid (a : List Int) (x y : Int) (c : List Int) : (a ++ x :: c).set a.length y = a ++ y :: c := by simp [List.set_append]

theorem drop_head (b : List Int) (i : Nat) (h : i < b.length) : ∃ x, b.drop i = x :: b.drop (i + 1) := ⟨b[i], List.drop_eq_getElem_cons h⟩

theorem m47_ok (b : List Int) (hb : Bytes b) (hl : b.length ≤ 140737488355328) : m47 (b, ()) = some ((esc b).1, ((esc b).2, ())) := by
  apply ok_eq
  unfold m47 m70
  dsimp only
  simp only [List.nil_append, List.length_nil]
  refine Ok.gd (by omega) (Ok.gd (by omega) (Ok.cond (fun h => Ok.some ?_) (fun h => Ok.gd (by omega) ?_)))
  · unfold esc
    rw [if_neg (fun h2 => by have := congrArg List.length h2; simp [MG] at this; omega)]
  simp only [Option.bind_some]
  have e4 : List.take (Int.toNat 4 - Int.toNat 0) (List.drop (Int.toNat 0) b) = b.take 4 := rfl
  have hin := ofNums_inj (hb.take 4) MG_bytes
  rw [e4]
  unfold esc
  refine Ok.condb (fun h => Ok.some ?_) (fun h => ?_)
  · rw [if_neg (fun h2 => ?_)]
    have h3 := hin.2 h2
    have h' : (!streq (strOfNums (b.take 4)) (strOfNums MG)) = true := h
    rw [h3] at h'; simp at h'
  have h' : (!streq (strOfNums (b.take 4)) (strOfNums MG)) = false := h
  rw [if_pos (hin.1 (by simpa using h'))]
  refine Ok.bind (S := fun r => r = List.replicate 4 0 ++ b.drop 4) ?_ (fun r hr => Ok.some (by rw [hr]))
  refine Ok.loop 4 (fun i x => x = ((i : Int), List.replicate i 0 ++ b.drop i)) rfl ?_
  rintro i x hi rfl
  have hlen : (List.replicate i (0 : Int) ++ b.drop i).length = b.length := by simp; omega
  refine Ok.cond (fun hc => ?_) (fun hc => ?_)
  rotate_left
  · obtain rfl : i = 4 := by simp only at hc; omega
    exact Ok.inr rfl
  simp only at hc
  refine Ok.gd (by simp only; omega) (Ok.gd (by simp only [hlen]; omega) (Ok.gd (by simp only [hlen]; omega) (Ok.inl ⟨by omega, ?_⟩)))
  obtain ⟨x, hx⟩ := drop_head b i (by omega)
  simp only [Int.toNat_natCast]
  rw [wsucc (by omega), hx]
  have := set_mid (List.replicate i 0) x 0 (b.drop (i + 1))
  rw [List.length_replicate] at this
  rw [this, List.replicate_succ', List.append_assoc]; rfl

theorem m39_ok (b : List Int) (e : Bool) (hl : b.length ≤ 140737488355328) : m39 (b, (e, ())) = some (unesc b e, ()) := by
  apply ok_eq
  unfold m39
  rw [m52_ok b hl]
  simp only [Option.bind_some]
  unfold unesc
  refine Ok.condb (fun h => Ok.cond (fun h2 => ?_) (fun h2 => Ok.some ?_)) (fun h => Ok.some ?_)
  · rw [m63_ok]
    simp only [Option.bind_some]
    rw [if_pos ⟨h, by omega⟩]
    have : MG.take b.length = MG := List.take_of_length_le (by show 4 ≤ _; omega)
    rw [this]
    exact Ok.some rfl
  · rw [if_neg (fun h3 => by omega)]
  · rw [if_neg (fun h3 => by rw [h] at h3; simp at h3)]

theorem m45_ok (b : List Int) (e : Bool) (hl : b.length ≤ 140737488355328) : m45 (b, (e, ())) = some (unesc b e, ()) := by
  apply ok_eq
  unfold m45 m70
  dsimp only
  simp only [List.nil_append, List.length_nil]
  refine Ok.gd (by omega) (Ok.gd (by omega) (Ok.bind (S := fun r => r = unesc b e) ?_ (fun r hr => Ok.some (by rw [hr]))))
  unfold unesc
  by_cases hh : e = true ∧ 4 ≤ b.length
  · obtain ⟨he, h4⟩ := hh
    rw [if_pos ⟨he, h4⟩]
    refine Ok.loop 4 (fun i x => x = ((i : Int), MG.take i ++ b.drop i)) rfl ?_
    rintro i x hi rfl
    have hlen : (MG.take i ++ b.drop i).length = b.length := by simp [MG]; omega
    refine Ok.cond (fun hc => ?_) (fun hc => ?_)
    rotate_left
    · obtain rfl : i = 4 := by simp only at hc; omega
      exact Ok.inr rfl
    have hi4 : i < 4 := by simp only at hc; omega
    refine Ok.condb (fun _ => Ok.cond (fun _ => ?_) (fun h => absurd h (by omega))) (fun h => by rw [he] at h; simp at h)
    have hM : List.length ((83 : Int) :: ((76 : Int) :: ((74 : Int) :: ((33 : Int) :: ([] : List Int))))) = 4 := rfl
    refine Ok.gd (by omega) (Ok.gd (by rw [hM]; omega) (Ok.gd (by omega) (Ok.gd (by rw [hlen]; omega) (Ok.gd (by rw [hlen]; omega) (Ok.inl ⟨hi4, ?_⟩)))))
    obtain ⟨x, hx⟩ := drop_head b i (by omega)
    simp only [Int.toNat_natCast]
    rw [wsucc (by omega), hx]
    have ht : (MG.take i).length = i := by rw [List.length_take]; show min i 4 = i; omega
    have := set_mid (MG.take i) x (MG.getD i 0) (b.drop (i + 1))
    rw [ht] at this
    have h3 : ((83 : Int) :: ((76 : Int) :: ((74 : Int) :: ((33 : Int) :: ([] : List Int))))) = MG := rfl
    rw [h3, this, take_snoc MG i hi4 0, List.append_assoc]; rfl
  · rw [if_neg hh]
    refine Ok.loop 0 (fun i x => x = ((0 : Int), b)) rfl ?_
    rintro i x hi rfl
    refine Ok.cond (fun hc => Ok.condb (fun h1 => Ok.cond (fun h2 => absurd ⟨h1, by omega⟩ hh) (fun h2 => Ok.inr rfl)) (fun _ => Ok.inr rfl)) (fun hc => Ok.inr rfl)
end Go.Proofs.Ytjleeabhpfmhaaa
end

section
namespace Go.Proofs.Ytjleeabhpfmhaaa
open Go Go.Proofs.AM

def tagOf (p : Int × List Int) : Int × Bool := (p.1, (esc p.2).2)
def cpy (p : Int × List Int) : List Int := (esc p.2).1
def rx (q : Int) (v : List Int) (i : Nat) : JB := (3, (q, ([], ((v.drop (60 * i)).take 60, 0))))
def dx (q : Int) (w : List (Int × List Int)) (i : Nat) : JB := (1, (q, (((w.drop (48 * i)).take 48).map tagOf, ([], 0))))
def rblks (q : Int) (v : List Int) (k : Nat) : List (List Int) := (List.range k).map fun i => encB (rx q v i)
def dgrp (q : Int) (w : List (Int × List Int)) (i : Nat) : List (List Int) := encB (dx q w i) :: ((w.drop (48 * i)).take 48).map cpy
def dgrps (q : Int) (w : List (Int × List Int)) (k : Nat) : List (List Int) := (List.range k).flatMap (dgrp q w)
def kR (t : TX) : Nat := (t.2.2.length + 59) / 60
def kW (t : TX) : Nat := (t.2.1.length + 47) / 48
def body (t : TX) : List (List Int) := rblks t.1 t.2.2 (kR t) ++ dgrps t.1 t.2.1 (kW t)
def cx (t : TX) : JB := (2, (t.1, ([], ([], (((body t).length + 1 : Nat) : Int)))))
def packB (t : TX) : List (List Int) := body t ++ [encB (cx t)]

theorem rblks_succ (q : Int) (v : List Int) (k : Nat) : rblks q v (k + 1) = rblks q v k ++ [encB (rx q v k)] := by unfold rblks; rw [List.range_succ, List.map_append]; rfl
theorem dgrps_succ (q : Int) (w : List (Int × List Int)) (k : Nat) : dgrps q w (k + 1) = dgrps q w k ++ dgrp q w k := by unfold dgrps; rw [List.range_succ, List.flatMap_append]; simp
theorem rblks_len (q : Int) (v : List Int) (k : Nat) : (rblks q v k).length = k := by simp [rblks]
theorem dgrps_len (q : Int) (w : List (Int × List Int)) : ∀ k, (dgrps q w k).length = k + min (48 * k) w.length
  | 0 => by simp [dgrps]
  | k + 1 => by
    rw [dgrps_succ, List.length_append, dgrps_len q w k]
    simp only [dgrp, List.length_cons, List.length_map, List.length_take, List.length_drop]
    omega
theorem body_len (t : TX) : (body t).length + 1 = size t := by
  unfold body size
  rw [List.length_append, rblks_len, dgrps_len]
  unfold kR kW
  omega

theorem getD_chunk {A : Type} (l : List A) (a n j : Nat) (z : A) (h : j < n) : ((l.drop a).take n).getD j z = l.getD (a + j) z := by
  rw [List.getD_eq_getElem?_getD, List.getElem?_take, if_pos h, List.getElem?_drop, ← List.getD_eq_getElem?_getD]
theorem getD_map' {A B : Type} (f : A → B) (l : List A) (j : Nat) (z : A) (z' : B) (h : j < l.length) : (l.map f).getD j z' = f (l.getD j z) := by
  rw [List.getD_eq_getElem?_getD, List.getElem?_map, List.getD_eq_getElem?_getD, List.getElem?_eq_getElem h]; rfl

theorem plain_rx {t : TX} (h : okT t) {i : Nat} (hi : i < kR t) : plainB (rx t.1 t.2.2 i) := by
  have hf := okT_facts h
  unfold kR at hi
  refine ⟨h.1, ?_⟩
  show (if (3 : Int) = 1 then _ else if (3 : Int) = 3 then _ else _)
  rw [if_neg (by decide), if_pos rfl]
  have hl : ((t.2.2.drop (60 * i)).take 60).length = min 60 (t.2.2.length - 60 * i) := by simp
  refine ⟨rfl, rfl, ?_, ?_, fun j hj => ?_⟩
  · show 1 ≤ ((t.2.2.drop (60 * i)).take 60).length
    omega
  · show ((t.2.2.drop (60 * i)).take 60).length ≤ 60
    omega
  · have hj : j < ((t.2.2.drop (60 * i)).take 60).length := hj
    show isBlk (((t.2.2.drop (60 * i)).take 60).getD j 0)
    rw [getD_chunk _ _ _ _ _ (by omega), ← num_r]
    exact h.2.2.2.1 _ (by unfold tot; omega)

theorem plain_dx {t : TX} (h : okT t) {i : Nat} (hi : i < kW t) : plainB (dx t.1 t.2.1 i) := by
  have hf := okT_facts h
  unfold kW at hi
  refine ⟨h.1, ?_⟩
  show (if (1 : Int) = 1 then _ else _)
  rw [if_pos rfl]
  have hl : ((t.2.1.drop (48 * i)).take 48).length = min 48 (t.2.1.length - 48 * i) := by simp
  refine ⟨rfl, rfl, ?_, ?_, fun j hj => ?_⟩
  · show 1 ≤ (((t.2.1.drop (48 * i)).take 48).map tagOf).length
    rw [List.length_map]; omega
  · show (((t.2.1.drop (48 * i)).take 48).map tagOf).length ≤ 48
    rw [List.length_map]; omega
  · have hj : j < (((t.2.1.drop (48 * i)).take 48).map tagOf).length := hj
    rw [List.length_map] at hj
    show isBlk ((((t.2.1.drop (48 * i)).take 48).map tagOf).getD j (0, false)).1
    rw [getD_map' tagOf _ _ (0, []) _ hj, getD_chunk _ _ _ _ _ (by omega)]
    show isBlk (t.2.1.getD (48 * i + j) (0, [])).1
    rw [← num_w (by omega)]
    exact h.2.2.2.1 _ (by unfold tot; omega)

theorem plain_cx {t : TX} (h : okT t) : plainB (cx t) := by
  have hf := body_len t
  have hs := h.2.2.1
  refine ⟨h.1, ?_⟩
  show (if (2 : Int) = 1 then _ else if (2 : Int) = 3 then _ else if (2 : Int) = 2 then _ else _)
  rw [if_neg (by decide), if_neg (by decide), if_pos rfl]
  refine ⟨rfl, rfl, ?_, ?_⟩
  · show (1 : Int) ≤ (((body t).length + 1 : Nat) : Int)
    omega
  · show (((body t).length + 1 : Nat) : Int) ≤ 64
    omega

structure Small (t : TX) : Prop where
  w : t.2.1.length ≤ 140737488355328
  r : t.2.2.length ≤ 140737488355328
  d : ∀ p ∈ t.2.1, Bytes p.2 ∧ p.2.length ≤ 140737488355328

theorem chunk_eq {A : Type} (v : List A) (a n : Nat) : (v.drop a).take (a + min (v.length - a) n - a) = (v.drop a).take n := by
  rw [Nat.add_sub_cancel_left]
  by_cases h : v.length - a ≤ n
  · rw [Nat.min_eq_left h, List.take_of_length_le (by simp), List.take_of_length_le (by simp; omega)]
  · rw [Nat.min_eq_right (by omega)]

open Classical in
theorem m40_ok (t : TX) (hs : Small t) : m40 (t, ()) = some (if okT t then (packB t, (0, ())) else ([], (171, ()))) := by
  apply ok_eq
  unfold m40
  rw [m51_ok t hs.w hs.r]
  simp only [Option.bind_some]
  by_cases hok : okT t
  rotate_left
  · rw [if_neg hok, if_neg hok]
    exact Ok.ncond (fun _ => Ok.some rfl) (fun h => absurd h (by decide))
  rw [if_pos hok, if_pos hok]
  obtain ⟨f1, f2⟩ := okT_facts hok
  have hR : kR t = (t.2.2.length + 59) / 60 := rfl
  have hW : kW t = (t.2.1.length + 47) / 48 := rfl
  refine Ok.ncond (fun h => (h rfl).elim) (fun _ => Ok.cond (fun h => absurd h (by decide)) (fun _ => ?_))
  refine Ok.bind (S := fun r => r = rblks t.1 t.2.2 (kR t)) ?_ (fun r hr => ?_)
  · refine Ok.loop (kR t) (fun i x => x = (((60 * i : Nat) : Int), rblks t.1 t.2.2 i)) rfl ?_
    rintro i x hi rfl
    refine Ok.cond (fun hc => ?_) (fun hc => ?_)
    rotate_left
    · obtain rfl : i = kR t := by simp only at hc; omega
      exact Ok.inr rfl
    have hc' : 60 * i < t.2.2.length := by simp only at hc; omega
    have eT : List.take (Int.toNat ((t.2.2.length : Nat) : Int) - Int.toNat ((60 * i : Nat) : Int)) (List.drop (Int.toNat ((60 * i : Nat) : Int)) t.2.2) = t.2.2.drop (60 * i) := by
      rw [Int.toNat_natCast, Int.toNat_natCast]
      exact List.take_of_length_le (by simp)
    have hmin : (if ((t.2.2.length - 60 * i : Nat) : Int) < 60 then ((t.2.2.length - 60 * i : Nat) : Int) else 60) = ((min (t.2.2.length - 60 * i) 60 : Nat) : Int) := by
      split <;> omega
    have hwr : IntKind.wrap .i64 (((60 * i : Nat) : Int) + ((min (t.2.2.length - 60 * i) 60 : Nat) : Int)) = ((60 * i + min (t.2.2.length - 60 * i) 60 : Nat) : Int) := by rw [wrap64 (by omega) (by omega)]; push_cast; rfl
    simp only [eT, List.length_drop, hmin, hwr]
    refine Ok.gd (by omega) (Ok.gd (by omega) (Ok.gd (by omega) (Ok.gd (by omega) (Ok.gd (by omega) (Ok.gd (by omega) (Ok.gd (by omega) ?_))))))
    simp only [Int.toNat_natCast, chunk_eq]
    have e := m62_ok (rx t.1 t.2.2 i)
    rw [if_pos (plain_rx hok (by omega))] at e
    unfold rx at e
    rw [e]
    simp only [Option.bind_some]
    refine Ok.cond (fun _ => ?_) (fun h => (h (by simp)).elim)
    have hl := rblks_len t.1 t.2.2 i
    simp only [List.length_cons, List.length_nil, hl]
    refine Ok.gd (by omega) (Ok.gd (by omega) (Ok.inl ⟨by omega, ?_⟩))
    rw [rblks_succ, wrap64 (by omega) (by omega)]
    refine Prod.ext ?_ rfl
    show ((60 * i : Nat) : Int) + 60 = ((60 * (i + 1) : Nat) : Int)
    omega
  subst hr
  refine Ok.cond (fun h => absurd h (by decide)) (fun _ => ?_)
  have hl0 := rblks_len t.1 t.2.2 (kR t)
  generalize hR0 : rblks t.1 t.2.2 (kR t) = R0 at *
  refine Ok.bind (S := fun r => r = R0 ++ dgrps t.1 t.2.1 (kW t)) ?_ (fun r hr => ?_)
  · refine Ok.loop (kW t) (fun i x => x = (((48 * i : Nat) : Int), R0 ++ dgrps t.1 t.2.1 i)) (by simp [dgrps]) ?_
    rintro i x hi rfl
    refine Ok.cond (fun hc => ?_) (fun hc => ?_)
    rotate_left
    · obtain rfl : i = kW t := by simp only at hc; omega
      exact Ok.inr rfl
    have hc' : 48 * i < t.2.1.length := by simp only at hc; omega
    have eT : List.take (Int.toNat ((t.2.1.length : Nat) : Int) - Int.toNat ((48 * i : Nat) : Int)) (List.drop (Int.toNat ((48 * i : Nat) : Int)) t.2.1) = t.2.1.drop (48 * i) := by
      rw [Int.toNat_natCast, Int.toNat_natCast]
      exact List.take_of_length_le (by simp)
    have hmin : (if ((t.2.1.length - 48 * i : Nat) : Int) < 48 then ((t.2.1.length - 48 * i : Nat) : Int) else 48) = ((min (t.2.1.length - 48 * i) 48 : Nat) : Int) := by
      split <;> omega
    have hwr : IntKind.wrap .i64 (((48 * i : Nat) : Int) + ((min (t.2.1.length - 48 * i) 48 : Nat) : Int)) = ((48 * i + min (t.2.1.length - 48 * i) 48 : Nat) : Int) := by rw [wrap64 (by omega) (by omega)]; push_cast; rfl
    simp only [eT, List.length_drop, hmin, hwr]
    refine Ok.gd (by omega) (Ok.gd (by omega) (Ok.gd (by omega) (Ok.gd (by omega) (Ok.gd (by omega) (Ok.gd (by omega) (Ok.gd (by omega) ?_))))))
    simp only [Int.toNat_natCast, chunk_eq]
    have hpl : ((t.2.1.drop (48 * i)).take 48).length = min 48 (t.2.1.length - 48 * i) := by simp
    have hpm : ∀ p ∈ (t.2.1.drop (48 * i)).take 48, p ∈ t.2.1 := fun p hp => List.mem_of_mem_drop (List.mem_of_mem_take hp)
    have hdx : dx t.1 t.2.1 i = (1, (t.1, (((t.2.1.drop (48 * i)).take 48).map tagOf, ([], 0)))) := rfl
    have hdg : dgrp t.1 t.2.1 i = encB (dx t.1 t.2.1 i) :: ((t.2.1.drop (48 * i)).take 48).map cpy := rfl
    generalize (t.2.1.drop (48 * i)).take 48 = part at *
    refine Ok.bind (S := fun r => r = (part.map tagOf, part.map cpy)) ?_ (fun r hr => ?_)
    · refine Ok.loop part.length (fun j x => x = ((part.take j).map tagOf, ((part.take j).map cpy, (j : Int)))) (by simp) ?_
      rintro j x hj rfl
      refine Ok.cond (fun hc2 => ?_) (fun hc2 => ?_)
      rotate_left
      · obtain rfl : j = part.length := by simp only at hc2; omega
        exact Ok.inr (by rw [List.take_length])
      have hj' : j < part.length := by simp only at hc2; omega
      have hmem := hs.d _ (hpm _ (getD_mem (z := (0, [])) hj'))
      refine Ok.gd (by simp only; omega) (Ok.gd hc2 ?_)
      simp only [Int.toNat_natCast]
      rw [m67_ok _ hmem.1 hmem.2]
      simp only [Option.bind_some, List.length_map, List.length_take, List.length_cons, List.length_nil]
      refine Ok.gd (by omega) (Ok.gd (by omega) (Ok.gd (by omega) (Ok.gd (by omega) (Ok.inl ⟨hj', ?_⟩))))
      rw [wsucc (by omega), take_snoc part j hj' (0, []), List.map_append, List.map_append]
      rfl
    subst hr
    have e := m62_ok (dx t.1 t.2.1 i)
    rw [if_pos (plain_dx hok (by omega)), hdx] at e
    dsimp only
    rw [e]
    simp only [Option.bind_some]
    refine Ok.cond (fun _ => ?_) (fun h => (h (by simp)).elim)
    have hdl := dgrps_len t.1 t.2.1 i
    simp only [List.length_append, List.length_map, List.length_cons, List.length_nil, hdl, hl0]
    refine Ok.gd (by omega) (Ok.gd (by omega) (Ok.gd (by omega) (Ok.gd (by omega) (Ok.inl ⟨by omega, ?_⟩))))
    rw [dgrps_succ, hdg, hdx, wrap64 (by omega) (by omega)]
    refine Prod.ext ?_ (by simp [List.append_assoc])
    show ((48 * i : Nat) : Int) + 48 = ((48 * (i + 1) : Nat) : Int)
    omega
  subst hr
  have hb : R0 ++ dgrps t.1 t.2.1 (kW t) = body t := by unfold body; rw [hR0]
  rw [hb]
  have hbl := body_len t
  have hsz := hok.2.2.1
  have hwr : IntKind.wrap .i64 ((((body t).length : Nat) : Int) + 1) = (((body t).length + 1 : Nat) : Int) := wsucc (by omega)
  rw [hwr]
  have e := m62_ok (cx t)
  rw [if_pos (plain_cx hok)] at e
  have e' : m62 (((2 : Int), (t.1, (([] : List (Int × Bool)), (([] : List Int), (((body t).length + 1 : Nat) : Int))))), ()) = some (encB (cx t), (0, ())) := e
  rw [e']
  simp only [Option.bind_some]
  refine Ok.cond (fun _ => ?_) (fun h => (h (by simp)).elim)
  simp only [List.length_cons, List.length_nil]
  exact Ok.gd (by omega) (Ok.gd (by omega) (Ok.some rfl))

theorem chunk_eq2 {A : Type} (v : List A) (a n : Nat) : (v.drop a).take (min v.length (a + n) - a) = (v.drop a).take n := by
  by_cases h : v.length ≤ a + n
  · rw [Nat.min_eq_left h, List.take_of_length_le (by simp), List.take_of_length_le (by simp; omega)]
  · rw [Nat.min_eq_right (by omega), Nat.add_sub_cancel_left]

open Classical in
theorem m27_ok (t : TX) (hs : Small t) : m27 (t, ()) = some (if okT t then (packB t, (0, ())) else ([], (171, ()))) := by
  apply ok_eq
  unfold m27
  rw [m31_ok t hs.w hs.r]
  simp only [Option.bind_some]
  by_cases hok : okT t
  rotate_left
  · rw [if_neg hok, if_neg hok]
    exact Ok.ncond (fun _ => Ok.some rfl) (fun h => absurd h (by decide))
  rw [if_pos hok, if_pos hok]
  obtain ⟨f1, f2⟩ := okT_facts hok
  have hR : kR t = (t.2.2.length + 59) / 60 := rfl
  have hW : kW t = (t.2.1.length + 47) / 48 := rfl
  refine Ok.ncond (fun h => (h rfl).elim) (fun _ => ?_)
  refine Ok.bind (S := fun r => r = rblks t.1 t.2.2 (kR t)) ?_ (fun r hr => ?_)
  · refine Ok.loop (kR t) (fun i x => x = (rblks t.1 t.2.2 i, ((60 * i : Nat) : Int))) rfl ?_
    rintro i x hi rfl
    refine Ok.cond (fun hc => ?_) (fun hc => ?_)
    rotate_left
    · obtain rfl : i = kR t := by simp only at hc; omega
      exact Ok.inr rfl
    have hc' : 60 * i < t.2.2.length := by simp only at hc; omega
    have hwr : IntKind.wrap .i64 (((60 * i : Nat) : Int) + 60) = ((60 * i + 60 : Nat) : Int) := by rw [wrap64 (by omega) (by omega)]; push_cast; rfl
    have hmin : (if ((t.2.2.length : Nat) : Int) < ((60 * i + 60 : Nat) : Int) then ((t.2.2.length : Nat) : Int) else ((60 * i + 60 : Nat) : Int)) = ((min t.2.2.length (60 * i + 60) : Nat) : Int) := by
      split <;> omega
    simp only [hwr, hmin]
    refine Ok.gd (by omega) (Ok.gd (by omega) (Ok.gd (by omega) ?_))
    simp only [Int.toNat_natCast, chunk_eq2]
    have e := m46_ok (rx t.1 t.2.2 i) (by simp [rx]) (by show ((t.2.2.drop (60 * i)).take 60).length ≤ _; simp; omega)
    rw [if_pos (plain_rx hok (by omega))] at e
    unfold rx at e
    rw [e]
    have hl := rblks_len t.1 t.2.2 i
    simp only [Option.bind_some, List.length_cons, List.length_nil, hl]
    refine Ok.gd (by omega) (Ok.gd (by omega) (Ok.inl ⟨by omega, ?_⟩))
    rw [rblks_succ]
    refine Prod.ext rfl ?_
    show ((60 * i + 60 : Nat) : Int) = ((60 * (i + 1) : Nat) : Int)
    omega
  subst hr
  have hl0 := rblks_len t.1 t.2.2 (kR t)
  generalize hR0 : rblks t.1 t.2.2 (kR t) = R0 at *
  refine Ok.bind (S := fun r => r = R0 ++ dgrps t.1 t.2.1 (kW t)) ?_ (fun r hr => ?_)
  · refine Ok.loop (kW t) (fun i x => x = (R0 ++ dgrps t.1 t.2.1 i, ((48 * i : Nat) : Int))) (by simp [dgrps]) ?_
    rintro i x hi rfl
    refine Ok.cond (fun hc => ?_) (fun hc => ?_)
    rotate_left
    · obtain rfl : i = kW t := by simp only at hc; omega
      exact Ok.inr rfl
    have hc' : 48 * i < t.2.1.length := by simp only at hc; omega
    have hwr : IntKind.wrap .i64 (((48 * i : Nat) : Int) + 48) = ((48 * i + 48 : Nat) : Int) := by rw [wrap64 (by omega) (by omega)]; push_cast; rfl
    simp only [hwr]
    have hpl : ((t.2.1.drop (48 * i)).take 48).length = min 48 (t.2.1.length - 48 * i) := by simp
    have hpg : ∀ j, j < ((t.2.1.drop (48 * i)).take 48).length → t.2.1.getD (48 * i + j) (0, []) = ((t.2.1.drop (48 * i)).take 48).getD j (0, []) := fun j hj => (getD_chunk _ _ _ _ _ (by omega)).symm
    have hdx : dx t.1 t.2.1 i = (1, (t.1, (((t.2.1.drop (48 * i)).take 48).map tagOf, ([], 0)))) := rfl
    have hdg : dgrp t.1 t.2.1 i = encB (dx t.1 t.2.1 i) :: ((t.2.1.drop (48 * i)).take 48).map cpy := rfl
    generalize (t.2.1.drop (48 * i)).take 48 = part at *
    refine Ok.bind (S := fun r => r = (part.map cpy, ((1 : Int), (t.1, (part.map tagOf, (([] : List Int), (0 : Int))))))) ?_ (fun r hr => ?_)
    · refine Ok.loop part.length (fun j x => x = ((part.take j).map cpy, (((48 * i + j : Nat) : Int), ((1 : Int), (t.1, ((part.take j).map tagOf, (([] : List Int), (0 : Int)))))))) (by simp) ?_
      rintro j x hj rfl
      have done : ¬ j < part.length → Ok (some (Sum.inr ((part.take j).map cpy, ((1 : Int), (t.1, ((part.take j).map tagOf, (([] : List Int), (0 : Int)))))))) (fun s : (((List (List Int)) × (Int × (Int × (Int × ((List (Int × Bool)) × ((List Int) × Int)))))) ⊕ ((List (List Int)) × (Int × (Int × ((List (Int × Bool)) × ((List Int) × Int)))))) => s.elim (fun y => j < part.length ∧ y = ((part.take (j + 1)).map cpy, (((48 * i + (j + 1) : Nat) : Int), ((1 : Int), (t.1, ((part.take (j + 1)).map tagOf, (([] : List Int), (0 : Int)))))))) (fun r => r = (part.map cpy, ((1 : Int), (t.1, (part.map tagOf, (([] : List Int), (0 : Int)))))))) := fun h => by
        obtain rfl : j = part.length := by omega
        exact Ok.inr (by rw [List.take_length])
      refine Ok.cond (fun hc1 => Ok.cond (fun hc2 => ?_) (fun hc2 => done (by simp only at hc2; omega))) (fun hc1 => done (by simp only at hc1; omega))
      simp only at hc1 hc2
      have hj' : j < part.length := by omega
      have hmem := hs.d _ (getD_mem (z := (0, [])) (show 48 * i + j < t.2.1.length by omega))
      refine Ok.gd (by simp only; omega) (Ok.gd hc1 ?_)
      simp only [Int.toNat_natCast]
      rw [m47_ok _ hmem.1 hmem.2]
      simp only [Option.bind_some, List.length_map, List.length_take, List.length_cons, List.length_nil]
      refine Ok.gd (by omega) (Ok.gd (by omega) (Ok.gd (by omega) (Ok.gd (by omega) (Ok.gd (by omega) (Ok.gd (by omega) (Ok.inl ⟨hj', ?_⟩))))))
      rw [wsucc (by omega), take_snoc part j hj' (0, []), List.map_append, List.map_append, hpg j hj']
      rfl
    subst hr
    have e := m46_ok (dx t.1 t.2.1 i) (by rw [hdx]; show (part.map tagOf).length ≤ _; rw [List.length_map]; omega) (by simp [dx])
    rw [if_pos (plain_dx hok (by omega)), hdx] at e
    dsimp only
    rw [e]
    have hdl := dgrps_len t.1 t.2.1 i
    simp only [Option.bind_some, List.length_append, List.length_map, List.length_cons, List.length_nil, hdl, hl0]
    refine Ok.gd (by omega) (Ok.gd (by omega) (Ok.gd (by omega) (Ok.gd (by omega) (Ok.inl ⟨by omega, ?_⟩))))
    rw [dgrps_succ, hdg, hdx]
    refine Prod.ext (by simp [List.append_assoc]) ?_
    show ((48 * i + 48 : Nat) : Int) = ((48 * (i + 1) : Nat) : Int)
    omega
  subst hr
  have hb : R0 ++ dgrps t.1 t.2.1 (kW t) = body t := by unfold body; rw [hR0]
  rw [hb]
  have hbl := body_len t
  have hsz := hok.2.2.1
  have hwr : IntKind.wrap .i64 ((((body t).length : Nat) : Int) + 1) = (((body t).length + 1 : Nat) : Int) := wsucc (by omega)
  rw [hwr]
  have e := m46_ok (cx t) (by simp [cx]) (by simp [cx])
  rw [if_pos (plain_cx hok)] at e
  have e' : m46 (((2 : Int), (t.1, (([] : List (Int × Bool)), (([] : List Int), (((body t).length + 1 : Nat) : Int))))), ()) = some (encB (cx t), (0, ())) := e
  rw [e']
  simp only [Option.bind_some, List.length_cons, List.length_nil]
  exact Ok.gd (by omega) (Ok.gd (by omega) (Ok.some rfl))
end Go.Proofs.Ytjleeabhpfmhaaa
end

section
namespace Go.Proofs.Ytjleeabhpfmhaaa
open Go Go.Proofs.AM

theorem drop_len {A : Type} (a b : List A) (n : Nat) (h : a.length = n) : (a ++ b).drop n = b := by rw [← h, List.drop_left]
theorem take_len {A : Type} (a b : List A) (n : Nat) (h : a.length = n) : (a ++ b).take n = a := by rw [← h, List.take_left]

theorem flat_drop {A : Type} {f : A → List Int} {c : Nat} (hf : ∀ a, (f a).length = c) (r : List Int) : ∀ (i : Nat) (l : List A), i ≤ l.length → (l.flatMap f ++ r).drop (c * i) = (l.drop i).flatMap f ++ r
  | 0, l, _ => by simp
  | i + 1, [], h => by simp at h
  | i + 1, a :: l, h => by
    rw [List.flatMap_cons, List.append_assoc, show c * (i + 1) = c + c * i by rw [Nat.mul_succ, Nat.add_comm], ← List.drop_drop, drop_len _ _ _ (hf a), flat_drop hf r i l (by simpa using h)]
    rfl

theorem encB_eq (x : JB) : ∃ z, encB x = be 1397508641 4 ++ (be x.1.toNat 1 ++ (be x.2.1.toNat 8 ++ (be (cnt x) 1 ++ (x.2.2.1.flatMap tagB ++ (x.2.2.2.1.flatMap revB ++ z))))) := by
  refine ⟨List.replicate (256 - (inB x).length) 0, ?_⟩
  simp only [encB, inB, hdB, List.append_assoc]

theorem encB_parts {x : JB} (h : plainB x) : kOf (encB x) = x.1.toNat ∧ qOf (encB x) = x.2.1.toNat ∧ nOf (encB x) = cnt x ∧ ∃ z, (encB x).drop 14 = x.2.2.1.flatMap tagB ++ (x.2.2.2.1.flatMap revB ++ z) := by
  obtain ⟨k1, q1, lt, lv, ltv, c0, cs, _, _⟩ := plain_facts h
  obtain ⟨z, e⟩ := encB_eq x
  have d4 : (encB x).drop 4 = be x.1.toNat 1 ++ (be x.2.1.toNat 8 ++ (be (cnt x) 1 ++ (x.2.2.1.flatMap tagB ++ (x.2.2.2.1.flatMap revB ++ z)))) := by
    rw [e, drop_len _ _ _ (be_len _ _)]
  have d5 : (encB x).drop 5 = be x.2.1.toNat 8 ++ (be (cnt x) 1 ++ (x.2.2.1.flatMap tagB ++ (x.2.2.2.1.flatMap revB ++ z))) := by
    rw [show (5 : Nat) = 4 + 1 from rfl, ← List.drop_drop, d4, drop_len _ _ _ (be_len _ _)]
  have d13 : (encB x).drop 13 = be (cnt x) 1 ++ (x.2.2.1.flatMap tagB ++ (x.2.2.2.1.flatMap revB ++ z)) := by
    rw [show (13 : Nat) = 5 + 8 from rfl, ← List.drop_drop, d5, drop_len _ _ _ (be_len _ _)]
  have d14 : (encB x).drop 14 = x.2.2.1.flatMap tagB ++ (x.2.2.2.1.flatMap revB ++ z) := by
    rw [show (14 : Nat) = 13 + 1 from rfl, ← List.drop_drop, d13, drop_len _ _ _ (be_len _ _)]
  refine ⟨?_, ?_, ?_, z, d14⟩
  · unfold kOf
    rw [d4, take_len _ _ _ (be_len _ _), val_be (by omega)]
  · unfold qOf
    rw [d5, take_len _ _ _ (be_len _ _), val_be (by omega)]
  · unfold nOf
    rw [d13, take_len _ _ _ (be_len _ _), val_be (by unfold cnt; omega)]

theorem tagB_len (t : Int × Bool) : (tagB t).length = 5 := by simp [tagB, be_len]
theorem revB_len (t : Int) : (revB t).length = 4 := by simp [revB, be_len]

theorem tags_back {b z : List Int} {l : List (Int × Bool)} (h : b.drop 14 = l.flatMap tagB ++ z) (hl : allT l) : tagsOf b l.length = l := by
  apply List.ext_getElem
  · simp [tagsOf]
  intro i h1 h2
  have hi := hl i h2
  have hd := flat_drop tagB_len z i l (by omega)
  rw [← h, List.drop_drop, List.drop_eq_getElem_cons h2] at hd
  have e : l.getD i (0, false) = l[i] := by rw [List.getD_eq_getElem?_getD, List.getElem?_eq_getElem h2]; rfl
  rw [e] at hi
  generalize l[i] = t at *
  obtain ⟨n, c⟩ := t
  simp only [List.flatMap_cons, tagB, List.append_assoc] at hd
  have e1 : (b.drop (14 + 5 * i)).take 4 = be n.toNat 4 := by rw [hd, take_len _ _ _ (be_len _ _)]
  have e2 : (b.drop (18 + 5 * i)).take 1 = be (if c = true then 1 else 0) 1 := by
    rw [show 18 + 5 * i = 14 + 5 * i + 4 by omega, ← List.drop_drop, hd, drop_len _ _ _ (be_len _ _), take_len _ _ _ (be_len _ _)]
  have hn := hi.1
  have hn2 := hi.2
  simp only at hn hn2
  simp only [tagsOf, List.getElem_map, List.getElem_range, tagAt]
  rw [e1, e2, val_be (by omega)]
  refine Prod.ext ?_ ?_
  · show ((n.toNat : Nat) : Int) = n
    omega
  · cases c <;> rfl

theorem revs_back {b z : List Int} {l : List Int} (h : b.drop 14 = l.flatMap revB ++ z) (hl : allR l) : revsOf b l.length = l := by
  apply List.ext_getElem
  · simp [revsOf]
  intro i h1 h2
  have hi := hl i h2
  have hd := flat_drop revB_len z i l (by omega)
  rw [← h, List.drop_drop, List.drop_eq_getElem_cons h2] at hd
  have e : l.getD i 0 = l[i] := by rw [List.getD_eq_getElem?_getD, List.getElem?_eq_getElem h2]; rfl
  rw [e] at hi
  generalize l[i] = n at *
  simp only [List.flatMap_cons, revB, List.append_assoc] at hd
  have e1 : (b.drop (14 + 4 * i)).take 4 = be n.toNat 4 := by rw [hd, take_len _ _ _ (be_len _ _)]
  have hn := hi.1
  have hn2 := hi.2
  simp only [revsOf, List.getElem_map, List.getElem_range, revAt]
  rw [e1, val_be (by omega)]
  omega

theorem cand_encB {x : JB} (h : plainB x) : cand (encB x) = x := by
  obtain ⟨ek, eq, en, z, ed⟩ := encB_parts h
  obtain ⟨k1, q1, lt, lv, ltv, c0, cs, at_, av⟩ := plain_facts h
  obtain ⟨_, h2⟩ := h
  obtain ⟨k, q, t, v, c⟩ := x
  have ec : cnt (k, q, t, v, c) = (((t.length : Nat) : Int) + ((v.length : Nat) : Int) + c).toNat := rfl
  dsimp only at *
  unfold cand
  rw [ek, eq, en]
  have ek' : ((k.toNat : Nat) : Int) = k := by omega
  have eq' : ((q.toNat : Nat) : Int) = q := by omega
  rw [ek', eq']
  split at h2
  · rename_i hk
    have hv : v = [] := List.length_eq_zero_iff.1 h2.1
    subst hv
    have hn : cnt (k, q, t, [], c) = t.length := by rw [ec]; simp only [List.length_nil]; omega
    rw [hn, if_pos (by omega), tags_back ed at_]
    rw [h2.2.1]
  · rename_i hk
    split at h2
    · rename_i hk3
      have ht : t = [] := List.length_eq_zero_iff.1 h2.1
      subst ht
      have hn : cnt (k, q, [], v, c) = v.length := by rw [ec]; simp only [List.length_nil]; omega
      rw [hn, if_neg (by omega), if_pos (by omega), revs_back ed av]
      rw [h2.2.1]
    · rename_i hk3
      split at h2
      · rename_i hk2
        have ht : t = [] := List.length_eq_zero_iff.1 h2.1
        have hv : v = [] := List.length_eq_zero_iff.1 h2.2.1
        subst ht hv
        have hn : ((cnt (k, q, [], [], c) : Nat) : Int) = c := by rw [ec]; simp only [List.length_nil]; omega
        rw [if_neg (by omega), if_neg (by omega), hn]
      · exact h2.elim

theorem decB_encB {x : JB} (h : plainB x) : decB (encB x) = (x, (0, ())) := by
  unfold decB
  rw [if_pos (encB_len h), cand_encB h]
  unfold fin
  rw [if_pos ⟨h, rfl⟩]

open Classical in
noncomputable def dec1 (q : Int) (b : List Int) : Option JB := if (decB b).2.1 = 0 ∧ (decB b).1.2.1 = q then some (decB b).1 else none

def wr (l : List (List Int)) (a : Nat) (tags : List (Int × Bool)) (j : Nat) : List (Int × List Int) := (List.range j).map fun i => ((tags.getD i (0, false)).1, unesc (l.getD (a + i) []) (tags.getD i (0, false)).2)

noncomputable def par (q : Int) (l : List (List Int)) : Nat → Nat → TX → TX × Option Nat
  | 0, _, t => (t, none)
  | n + 1, a, t => if a < l.length then
      match dec1 q (l.getD a []) with
      | none => (t, none)
      | some x => if x.1 = 2 then (t, some a)
          else if x.1 = 3 then par q l n (a + 1) (t.1, (t.2.1, t.2.2 ++ x.2.2.2.1))
          else if l.length - (a + 1) < x.2.2.1.length then (t, none)
          else par q l n (a + 1 + x.2.2.1.length) (t.1, (t.2.1 ++ wr l (a + 1) x.2.2.1 x.2.2.1.length, t.2.2))
    else (t, none)

theorem par_lt (q : Int) (l : List (List Int)) : ∀ (n a : Nat) (t : TX) (i : Nat), (par q l n a t).2 = some i → i < l.length
  | 0, a, t, i, h => by simp [par] at h
  | n + 1, a, t, i, h => by
    unfold par at h
    split at h
    · rename_i ha
      split at h
      · simp at h
      · split at h
        · simp at h; omega
        · split at h
          · exact par_lt q l _ _ _ _ h
          · split at h
            · simp at h
            · exact par_lt q l _ _ _ _ h
    · simp at h

theorem dec1_encB {x : JB} (h : plainB x) {q : Int} (hq : x.2.1 = q) : dec1 q (encB x) = some x := by
  unfold dec1
  rw [decB_encB h]
  rw [if_pos ⟨rfl, hq⟩]

theorem getD_app_l {A : Type} (a b : List A) (i : Nat) (z : A) (h : i < a.length) : (a ++ b).getD i z = a.getD i z := by
  rw [List.getD_eq_getElem?_getD, List.getElem?_append_left h, ← List.getD_eq_getElem?_getD]
theorem getD_app_r {A : Type} (a b : List A) (i : Nat) (z : A) : (a ++ b).getD (a.length + i) z = b.getD i z := by
  rw [List.getD_eq_getElem?_getD, List.getElem?_append_right (by omega), Nat.add_sub_cancel_left, ← List.getD_eq_getElem?_getD]

theorem take_take_add {A : Type} (v : List A) (a n : Nat) : v.take a ++ (v.drop a).take n = v.take (a + n) := by rw [List.take_add]

theorem dgrps_at (q : Int) (w : List (Int × List Int)) (rest : List (List Int)) : ∀ (m i : Nat), i + m = (w.length + 47) / 48 → 0 < m → ∃ r, (dgrps q w (i + m) ++ rest).drop (dgrps q w i).length = dgrp q w i ++ r := by
  intro m i hm h0
  have : ∀ k, ∃ r, dgrps q w (i + 1 + k) = dgrps q w i ++ (dgrp q w i ++ r) := by
    intro k
    induction k with
    | zero => exact ⟨[], by rw [Nat.add_zero, dgrps_succ]; simp⟩
    | succ k ih =>
      obtain ⟨r, hr⟩ := ih
      exact ⟨r ++ dgrp q w (i + 1 + k), by rw [← Nat.add_assoc, dgrps_succ, hr]; simp [List.append_assoc]⟩
  obtain ⟨r, hr⟩ := this (m - 1)
  rw [show i + 1 + (m - 1) = i + m by omega] at hr
  exact ⟨r ++ rest, by rw [hr, List.append_assoc, drop_len _ _ _ rfl, List.append_assoc]⟩

theorem getD_drop {A : Type} (l : List A) (a j : Nat) (z : A) : l.getD (a + j) z = (l.drop a).getD j z := by
  rw [List.getD_eq_getElem?_getD, List.getD_eq_getElem?_getD, List.getElem?_drop]

theorem par_pack {t : TX} (h : okT t) (rest : List (List Int)) (N : Nat) (hN : (packB t ++ rest).length < N) : par t.1 (packB t ++ rest) N 0 (t.1, ([], [])) = (t, some (body t).length) := by
  obtain ⟨q, w, v⟩ := t
  generalize hl : packB (q, (w, v)) ++ rest = l at *
  have hbl := body_len (q, (w, v))
  have hlen : l.length = (body (q, (w, v))).length + 1 + rest.length := by rw [← hl]; simp [packB]; omega
  have hR : kR (q, (w, v)) = (v.length + 59) / 60 := rfl
  have hW : kW (q, (w, v)) = (w.length + 47) / 48 := rfl
  have hbody : (body (q, (w, v))).length = kR (q, (w, v)) + (kW (q, (w, v)) + w.length) := by
    unfold body
    rw [List.length_append, rblks_len, dgrps_len, hW]
    simp only
    omega
  have hl2 : l = rblks q v (kR (q, (w, v))) ++ (dgrps q w (kW (q, (w, v))) ++ ([encB (cx (q, (w, v)))] ++ rest)) := by
    rw [← hl]; simp [packB, body, List.append_assoc]
  have st1 : ∀ k, k ≤ kR (q, (w, v)) → par q l N 0 (q, ([], [])) = par q l (N - k) k (q, ([], v.take (60 * k))) := by
    intro k
    induction k with
    | zero => intro _; simp
    | succ k ih =>
      intro hk
      rw [ih (by omega)]
      obtain ⟨n, hn⟩ : ∃ n, N - k = n + 1 := ⟨N - k - 1, by omega⟩
      have hg : l.getD k [] = encB (rx q v k) := by
        rw [hl2, getD_app_l _ _ _ _ (by rw [rblks_len]; omega)]
        unfold rblks
        rw [getD_map' _ _ _ 0 _ (by simp; omega)]
        congr 2
        rw [List.getD_eq_getElem?_getD, List.getElem?_range (by omega)]; rfl
      have hp : plainB (rx q v k) := plain_rx h (show k < kR (q, (w, v)) by omega)
      have hde : dec1 q (encB (rx q v k)) = some (rx q v k) := dec1_encB hp rfl
      rw [hn, show N - (k + 1) = n by omega, par, if_pos (by omega), hg, hde]
      dsimp only
      rw [if_neg (by show ¬ (3 : Int) = 2; decide), if_pos (by rfl)]
      show par q l n (k + 1) (q, ([], v.take (60 * k) ++ (v.drop (60 * k)).take 60)) = _
      rw [take_take_add, show 60 * k + 60 = 60 * (k + 1) by omega]
  have hv : v.take (60 * kR (q, (w, v))) = v := List.take_of_length_le (by omega)
  have st2 : ∀ i, i ≤ kW (q, (w, v)) → par q l N 0 (q, ([], [])) = par q l (N - kR (q, (w, v)) - i) (kR (q, (w, v)) + (i + min (48 * i) w.length)) (q, (w.take (48 * i), v)) := by
    intro i
    induction i with
    | zero => intro _; rw [st1 _ (Nat.le_refl _), hv]; simp
    | succ i ih =>
      intro hi
      rw [ih (by omega)]
      have hi48 : 48 * i < w.length := by omega
      obtain ⟨n, hn⟩ : ∃ n, N - kR (q, (w, v)) - i = n + 1 := ⟨N - kR (q, (w, v)) - i - 1, by omega⟩
      obtain ⟨r, hr⟩ := dgrps_at q w ([encB (cx (q, (w, v)))] ++ rest) (kW (q, (w, v)) - i) i (by omega) (by omega)
      rw [show i + (kW (q, (w, v)) - i) = kW (q, (w, v)) by omega] at hr
      have hdl := dgrps_len q w i
      have hdrop : l.drop (kR (q, (w, v)) + (i + min (48 * i) w.length)) = dgrp q w i ++ r := by
        rw [← List.drop_drop, ← hdl]
        conv => lhs; rw [hl2]
        rw [drop_len _ _ _ (rblks_len _ _ _), hr]
      have hpl : ((w.drop (48 * i)).take 48).length = min 48 (w.length - 48 * i) := by simp
      have hdl2 := dgrps_len q w (i + 1)
      have hp : plainB (dx q w i) := plain_dx h (show i < kW (q, (w, v)) by omega)
      have hde : dec1 q (encB (dx q w i)) = some (dx q w i) := dec1_encB hp rfl
      have hg : l.getD (kR (q, (w, v)) + (i + min (48 * i) w.length)) [] = encB (dx q w i) := by
        have := getD_drop l (kR (q, (w, v)) + (i + min (48 * i) w.length)) 0 []
        rw [Nat.add_zero, hdrop] at this
        exact this
      have hc : ∀ j, j < ((w.drop (48 * i)).take 48).length → l.getD (kR (q, (w, v)) + (i + min (48 * i) w.length) + 1 + j) [] = cpy (((w.drop (48 * i)).take 48).getD j (0, [])) := by
        intro j hj
        rw [Nat.add_assoc _ 1 j, getD_drop, hdrop, Nat.add_comm 1 j]
        show ((((w.drop (48 * i)).take 48).map cpy) ++ r).getD j [] = _
        rw [getD_app_l _ _ _ _ (by rw [List.length_map]; exact hj), getD_map' cpy _ _ (0, []) _ hj]
      have ha : kR (q, (w, v)) + (i + min (48 * i) w.length) < l.length := by rw [hlen, hbody]; omega
      have hwr : wr l (kR (q, (w, v)) + (i + min (48 * i) w.length) + 1) (((w.drop (48 * i)).take 48).map tagOf) (((w.drop (48 * i)).take 48).map tagOf).length = (w.drop (48 * i)).take 48 := by
        generalize (w.drop (48 * i)).take 48 = part at *
        apply List.ext_getElem
        · simp [wr]
        intro j h1 h2
        have e1 : (part.map tagOf).getD j (0, false) = tagOf (part.getD j (0, [])) := getD_map' tagOf _ _ _ _ h2
        have e2 : part.getD j (0, []) = part[j] := by rw [List.getD_eq_getElem?_getD, List.getElem?_eq_getElem h2]; rfl
        simp only [wr, List.getElem_map, List.getElem_range]
        rw [e1, hc j h2, e2]
        exact Prod.ext rfl (unesc_esc _)
      rw [hn, show N - kR (q, (w, v)) - (i + 1) = n by omega, par, if_pos ha, hg, hde]
      dsimp only
      rw [if_neg (by show ¬ (1 : Int) = 2; decide), if_neg (by show ¬ (1 : Int) = 3; decide), if_neg (by
        show ¬ l.length - _ < (((w.drop (48 * i)).take 48).map tagOf).length
        rw [List.length_map, hlen, hbody]; omega)]
      show par q l n (kR (q, (w, v)) + (i + min (48 * i) w.length) + 1 + (((w.drop (48 * i)).take 48).map tagOf).length) (q, (w.take (48 * i) ++ wr l (kR (q, (w, v)) + (i + min (48 * i) w.length) + 1) (((w.drop (48 * i)).take 48).map tagOf) (((w.drop (48 * i)).take 48).map tagOf).length, v)) = _
      rw [hwr, take_take_add, show 48 * i + 48 = 48 * (i + 1) by omega]
      congr 1
      rw [List.length_map]
      omega
  have hw : w.take (48 * kW (q, (w, v))) = w := List.take_of_length_le (by omega)
  show par q l N 0 (q, ([], [])) = _
  rw [st2 _ (Nat.le_refl _), hw]
  obtain ⟨n, hn⟩ : ∃ n, N - kR (q, (w, v)) - kW (q, (w, v)) = n + 1 := ⟨N - kR (q, (w, v)) - kW (q, (w, v)) - 1, by omega⟩
  have hat : kR (q, (w, v)) + (kW (q, (w, v)) + min (48 * kW (q, (w, v))) w.length) = (body (q, (w, v))).length := by rw [hbody]; omega
  have hg : l.getD (body (q, (w, v))).length [] = encB (cx (q, (w, v))) := by
    have e : l = body (q, (w, v)) ++ ([encB (cx (q, (w, v)))] ++ rest) := by rw [← hl]; simp [packB, List.append_assoc]
    conv => lhs; rw [e]
    have := getD_app_r (body (q, (w, v))) ([encB (cx (q, (w, v)))] ++ rest) 0 []
    rw [Nat.add_zero] at this
    rw [this]; rfl
  have hde : dec1 q (encB (cx (q, (w, v)))) = some (cx (q, (w, v))) := dec1_encB (plain_cx h) rfl
  rw [hn, hat, par, if_pos (by omega), hg, hde]
  dsimp only
  rw [if_pos (by rfl)]
end Go.Proofs.Ytjleeabhpfmhaaa
end

section
namespace Go.Proofs.Ytjleeabhpfmhaaa
open Go Go.Proofs.AM

abbrev UR := TyT × (Int × (Int × Unit))
def badU : UR := ((0, ([], [])), (0, (170, ())))

structure UInv (q : Int) (l : List (List Int)) (a : Nat) (t : TX) : Prop where
  s : t.1 = q
  le : a ≤ l.length
  w : t.2.1.length ≤ a
  r : t.2.2.length ≤ 60 * a
  d : ∀ p ∈ t.2.1, Bytes p.2 ∧ p.2.length ≤ 140737488355328

theorem UInv.small {q : Int} {l : List (List Int)} {a : Nat} {t : TX} (h : UInv q l a t) (hl : l.length ≤ 64) : Small t :=
  ⟨by have := h.w; have := h.le; omega, by have := h.r; have := h.le; omega, h.d⟩

theorem decB_plain {b : List Int} (h : (decB b).2.1 = 0) : plainB (decB b).1 := by
  unfold decB at h ⊢
  split
  · rename_i hl
    rw [if_pos hl] at h
    unfold fin at h ⊢
    split
    · rename_i hp
      exact hp.1
    · rename_i hp
      rw [if_neg hp] at h
      exact absurd h (by decide)
  · rename_i hl
    rw [if_neg hl] at h
    exact absurd h (by decide)

theorem dec1_some {q : Int} {b : List Int} (h : (decB b).2.1 = 0) (h2 : (decB b).1.2.1 = q) : dec1 q b = some (decB b).1 := by
  unfold dec1; rw [if_pos ⟨h, h2⟩]
theorem dec1_none {q : Int} {b : List Int} (h : ¬ ((decB b).2.1 = 0 ∧ (decB b).1.2.1 = q)) : dec1 q b = none := by
  unfold dec1; rw [if_neg h]

theorem wr_succ (l : List (List Int)) (a : Nat) (tags : List (Int × Bool)) (j : Nat) : wr l a tags (j + 1) = wr l a tags j ++ [((tags.getD j (0, false)).1, unesc (l.getD (a + j) []) (tags.getD j (0, false)).2)] := by
  unfold wr; rw [List.range_succ, List.map_append]; rfl
theorem wr_len (l : List (List Int)) (a : Nat) (tags : List (Int × Bool)) (j : Nat) : (wr l a tags j).length = j := by simp [wr]
theorem wr_ok {l : List (List Int)} (hb : ∀ b ∈ l, Bytes b ∧ b.length ≤ 140737488355328) {a : Nat} {tags : List (Int × Bool)} {j : Nat} (h : a + j ≤ l.length) : ∀ p ∈ wr l a tags j, Bytes p.2 ∧ p.2.length ≤ 140737488355328 := by
  intro p hp
  unfold wr at hp
  obtain ⟨i, hi, rfl⟩ := List.mem_map.1 hp
  have hi := List.mem_range.1 hi
  have := hb _ (getD_mem (z := []) (show a + i < l.length by omega))
  exact ⟨unesc_bytes this.1, by rw [unesc_len]; exact this.2⟩

theorem pack_bytes {t : TX} (h : ∀ p ∈ t.2.1, Bytes p.2) : ∀ b ∈ packB t, Bytes b := by
  intro b hb
  unfold packB body rblks dgrps dgrp at hb
  rcases List.mem_append.1 hb with hb | hb
  · rcases List.mem_append.1 hb with hb | hb
    · obtain ⟨i, _, rfl⟩ := List.mem_map.1 hb
      exact encB_bytes _
    · obtain ⟨i, _, hb⟩ := List.mem_flatMap.1 hb
      rcases List.mem_cons.1 hb with rfl | hb
      · exact encB_bytes _
      · obtain ⟨p, hp, rfl⟩ := List.mem_map.1 hb
        exact esc_bytes (h p (List.mem_of_mem_drop (List.mem_of_mem_take hp)))
  · rw [List.mem_singleton] at hb
    subst hb
    exact encB_bytes _

theorem ext_getDL {l m : List (List Int)} (hl : l.length = m.length) (h : ∀ i, i < l.length → l.getD i [] = m.getD i []) : l = m := by
  apply List.ext_getElem hl
  intro i h1 h2
  have := h i h1
  rw [List.getD_eq_getElem?_getD, List.getD_eq_getElem?_getD, List.getElem?_eq_getElem h1, List.getElem?_eq_getElem h2] at this
  simpa using this

open Classical in
noncomputable def outU (t : TX) (l : List (List Int)) : UR :=
  if okT t ∧ (packB t).length ≤ l.length ∧ packB t = l.take (packB t).length then (t, ((((packB t).length : Nat) : Int), (0, ()))) else badU

theorem par_stop {q : Int} {l : List (List Int)} {n a : Nat} {t : TX} (h : ¬ a < l.length) : par q l (n + 1) a t = (t, none) := by
  rw [par, if_neg h]
theorem par_bad {q : Int} {l : List (List Int)} {n a : Nat} {t : TX} (h : a < l.length) (hd : dec1 q (l.getD a []) = none) : par q l (n + 1) a t = (t, none) := by
  rw [par, if_pos h, hd]
theorem par_commit {q : Int} {l : List (List Int)} {n a : Nat} {t : TX} {x : JB} (h : a < l.length) (hd : dec1 q (l.getD a []) = some x) (hk : x.1 = 2) : par q l (n + 1) a t = (t, some a) := by
  rw [par, if_pos h, hd]
  dsimp only
  rw [if_pos hk]
theorem par_rev {q : Int} {l : List (List Int)} {n a : Nat} {t : TX} {x : JB} (h : a < l.length) (hd : dec1 q (l.getD a []) = some x) (hk : x.1 = 3) : par q l (n + 1) a t = par q l n (a + 1) (t.1, (t.2.1, t.2.2 ++ x.2.2.2.1)) := by
  rw [par, if_pos h, hd]
  dsimp only
  rw [if_neg (by omega), if_pos hk]
theorem par_short {q : Int} {l : List (List Int)} {n a : Nat} {t : TX} {x : JB} (h : a < l.length) (hd : dec1 q (l.getD a []) = some x) (hk : x.1 = 1) (hs : l.length - (a + 1) < x.2.2.1.length) : par q l (n + 1) a t = (t, none) := by
  rw [par, if_pos h, hd]
  dsimp only
  rw [if_neg (by omega), if_neg (by omega), if_pos hs]
theorem par_desc {q : Int} {l : List (List Int)} {n a : Nat} {t : TX} {x : JB} (h : a < l.length) (hd : dec1 q (l.getD a []) = some x) (hk : x.1 = 1) (hs : ¬ l.length - (a + 1) < x.2.2.1.length) : par q l (n + 1) a t = par q l n (a + 1 + x.2.2.1.length) (t.1, (t.2.1 ++ wr l (a + 1) x.2.2.1 x.2.2.1.length, t.2.2)) := by
  rw [par, if_pos h, hd]
  dsimp only
  rw [if_neg (by omega), if_neg (by omega), if_neg hs]

theorem m24_ok (q : Int) (l : List (List Int)) (hl : l.length ≤ 64) (hb : ∀ b ∈ l, Bytes b ∧ b.length ≤ 140737488355328) : m24 (q, (l, ())) = some (outU (par q l (l.length + 1) 0 (q, ([], []))).1 l) := by
  apply ok_eq
  unfold m24
  dsimp only
  generalize hP : par q l (l.length + 1) 0 (q, ([], [])) = P
  refine Ok.bind (S := fun r => r = P.1 ∧ Small P.1) ?_ (fun r hr => ?_)
  · refine Ok.loop l.length (fun i x => ∃ (a : Nat) (t : TX), x = ((a : Int), (t.1, (t.2.1, t.2.2))) ∧ i ≤ a ∧ UInv q l a t ∧ par q l (l.length + 1 - i) a t = P)
      ⟨0, (q, ([], [])), rfl, Nat.le_refl _, ⟨rfl, by omega, by simp, by simp, fun p hp => by simp at hp⟩, hP⟩ ?_
    rintro i x hi ⟨a, t, rfl, hia, hI, hpar⟩
    obtain ⟨n, hn⟩ : ∃ n, l.length + 1 - i = n + 1 := ⟨l.length - i, by omega⟩
    rw [hn] at hpar
    have hIa := hI.le
    have hIw := hI.w
    have hIr := hI.r
    have stop : P.1 = t → Ok (some (Sum.inr (t.1, (t.2.1, t.2.2)))) (fun s : ((Int × TyT) ⊕ TyT) => s.elim (fun y => i < l.length ∧ ∃ (a : Nat) (t : TX), y = ((a : Int), (t.1, (t.2.1, t.2.2))) ∧ i + 1 ≤ a ∧ UInv q l a t ∧ par q l (l.length + 1 - (i + 1)) a t = P) (fun r => r = P.1 ∧ Small P.1)) := fun h => Ok.inr ⟨by rw [h], by rw [h]; exact hI.small hl⟩
    refine Ok.cond (fun hc => ?_) (fun hc => stop (by rw [← hpar, par_stop (by simp only at hc; omega)]))
    have ha : a < l.length := by simp only at hc; omega
    have hba := (hb _ (getD_mem (z := []) ha))
    refine Ok.gd (by simp only; omega) (Ok.gd hc ?_)
    simp only [Int.toNat_natCast]
    rw [m38_ok _ hba.1]
    simp only [Option.bind_some]
    refine Ok.ncond (fun h1 => stop (by rw [← hpar, par_bad ha (dec1_none fun h => h1 h.1)])) (fun h1 => ?_)
    refine Ok.ncond (fun h2 => stop (by rw [← hpar, par_bad ha (dec1_none fun h => h2 h.2)])) (fun h2 => ?_)
    have hde := dec1_some h1 h2
    obtain ⟨k1, _, lt, lv, _⟩ := plain_facts (decB_plain h1)
    generalize (decB (l.getD a [])).1 = x at *
    refine Ok.cond (fun hk => stop (by rw [← hpar, par_commit ha hde hk])) (fun hk2 => ?_)
    have w1 : IntKind.wrap .i64 ((a : Int) + 1) = ((a + 1 : Nat) : Int) := wsucc (by omega)
    refine Ok.cond (fun hk3 => ?_) (fun hk3 => ?_)
    · rw [par_rev ha hde hk3] at hpar
      refine Ok.gd (by omega) (Ok.gd (by omega) (Ok.inl ⟨by omega, a + 1, (t.1, (t.2.1, t.2.2 ++ x.2.2.2.1)), ?_, by omega, ⟨hI.s, by omega, by show t.2.1.length ≤ _; omega, ?_, hI.d⟩, ?_⟩))
      · rw [w1]
      · show (t.2.2 ++ x.2.2.2.1).length ≤ _
        rw [List.length_append]; omega
      · rw [show l.length + 1 - (i + 1) = n by omega]; exact hpar
    refine Ok.cond (fun hk1 => ?_) (fun hk1 => absurd (show x.1 = 1 by omega) hk1)
    have w2 : IntKind.wrap .i64 (((l.length : Nat) : Int) - ((a + 1 : Nat) : Int)) = ((l.length - (a + 1) : Nat) : Int) := by rw [wrap64 (by omega) (by omega)]; omega
    simp only [w1, w2]
    refine Ok.cond (fun hs => stop (by rw [← hpar, par_short ha hde hk1 (by omega)])) (fun hs => ?_)
    rw [par_desc ha hde hk1 (by omega)] at hpar
    refine Ok.bind (S := fun r => r = (((a + 1 + x.2.2.1.length : Nat) : Int), (t.1, (t.2.1 ++ wr l (a + 1) x.2.2.1 x.2.2.1.length, t.2.2)))) ?_ (fun r hr => ?_)
    rotate_left
    · subst hr
      refine Ok.inl ⟨by omega, a + 1 + x.2.2.1.length, (t.1, (t.2.1 ++ wr l (a + 1) x.2.2.1 x.2.2.1.length, t.2.2)), rfl, by omega, ⟨hI.s, by omega, ?_, ?_, ?_⟩, ?_⟩
      · show (t.2.1 ++ wr l (a + 1) x.2.2.1 x.2.2.1.length).length ≤ _
        rw [List.length_append, wr_len]; omega
      · show t.2.2.length ≤ _
        omega
      · intro p hp
        rcases List.mem_append.1 hp with hp | hp
        · exact hI.d p hp
        · exact wr_ok hb (by omega) p hp
      · rw [show l.length + 1 - (i + 1) = n by omega]; exact hpar
    refine Ok.loop x.2.2.1.length (fun j y => y = (((a + 1 + j : Nat) : Int), ((j : Int), (t.1, (t.2.1 ++ wr l (a + 1) x.2.2.1 j, t.2.2))))) (by simp [wr]) ?_
    rintro j y hj rfl
    refine Ok.cond (fun hc2 => ?_) (fun hc2 => ?_)
    rotate_left
    · obtain rfl : j = x.2.2.1.length := by simp only at hc2; omega
      exact Ok.inr rfl
    have hj' : j < x.2.2.1.length := by simp only at hc2; omega
    have haj : a + 1 + j < l.length := by omega
    have hbj := hb _ (getD_mem (z := []) haj)
    have hwl := wr_len l (a + 1) x.2.2.1 j
    refine Ok.gd (by simp only; omega) (Ok.gd hc2 (Ok.gd (by simp only; omega) (Ok.gd (by simp only; omega) ?_)))
    simp only [Int.toNat_natCast]
    rw [m39_ok _ _ hbj.2]
    simp only [Option.bind_some, List.length_append, hwl, List.length_cons, List.length_nil]
    refine Ok.gd (by omega) (Ok.gd (by omega) (Ok.inl ⟨hj', ?_⟩))
    rw [wsucc (by omega), wsucc (by omega), wr_succ, List.append_assoc, Nat.add_assoc (a + 1) j 1]
  obtain ⟨rfl, hs⟩ := hr
  generalize P.1 = t at *
  rw [m40_ok t hs]
  simp only [Option.bind_some]
  unfold outU
  by_cases hok : okT t
  rotate_left
  · rw [if_neg hok, if_neg (fun h => hok h.1)]
    exact Ok.ncond (fun _ => Ok.some rfl) (fun h => absurd h (by decide))
  rw [if_pos hok]
  have hpb := pack_bytes (t := t) fun p hp => (hs.d p hp).1
  generalize packB t = pk at *
  dsimp only
  refine Ok.ncond (fun h => (h (by simp)).elim) (fun _ => Ok.cond (fun h => Ok.some ?_) (fun hle => ?_))
  · rw [if_neg (fun h2 => by have := h2.2.1; omega)]; rfl
  have hle' : pk.length ≤ l.length := by omega
  have et : List.take (Int.toNat ((pk.length : Nat) : Int) - Int.toNat 0) (List.drop (Int.toNat 0) l) = l.take pk.length := by
    rw [Int.toNat_natCast]; rfl
  have htl : (l.take pk.length).length = pk.length := by rw [List.length_take]; omega
  simp only [et, htl]
  refine Ok.gd (by omega) (Ok.gd (by omega) (Ok.ncond (fun h => (h (by simp)).elim) (fun _ => ?_)))
  refine Ok.bind (S := fun r => (r = .inl () ∧ pk = l.take pk.length) ∨ (r = .inr false ∧ pk ≠ l.take pk.length)) ?_ ?_
  · refine Ok.loop pk.length (fun i x => x = (i : Int) ∧ ∀ j, j < i → pk.getD j [] = (l.take pk.length).getD j []) ⟨rfl, fun j hj => by omega⟩ ?_
    rintro i x hi ⟨rfl, h⟩
    refine Ok.cond (fun hc => ?_) (fun hc => Ok.inr (.inl ⟨rfl, ext_getDL htl.symm fun j hj => h j (by omega)⟩))
    have hi' : i < pk.length := by omega
    refine Ok.gd (by omega) (Ok.gd hc (Ok.gd (by omega) (Ok.gd hc ?_)))
    simp only [Int.toNat_natCast]
    unfold m37
    simp only [Option.bind_some]
    have hin := ofNums_inj (hpb _ (getD_mem (z := []) hi')) (hb _ (List.mem_of_mem_take (getD_mem (z := []) (show i < (l.take pk.length).length by omega)))).1
    refine Ok.condb (fun hne => Ok.inr (.inr ⟨rfl, fun hh => ?_⟩)) (fun he => Ok.inl ⟨hi', wsucc (by omega), fun j hj => ?_⟩)
    · have := hin.2 (congrArg (fun z => List.getD z i []) hh)
      rw [this] at hne; simp at hne
    · by_cases e : j = i
      · subst e; exact hin.1 (by simpa using he)
      · exact h j (by omega)
  · rintro r (⟨rfl, h⟩ | ⟨rfl, h⟩)
    · exact Ok.some (by rw [if_pos ⟨hok, hle', h⟩])
    · exact Ok.some (by rw [if_neg (fun h2 => h h2.2.2)]; rfl)

open Classical in
noncomputable def outR (p : TX × Option Nat) (l : List (List Int)) : UR :=
  if ∃ i, p.2 = some i ∧ okT p.1 ∧ (packB p.1).length = i + 1 ∧ packB p.1 = l.take (i + 1) then (p.1, ((((packB p.1).length : Nat) : Int), (0, ()))) else badU

theorem outR_none (t : TX) (l : List (List Int)) : outR (t, none) l = badU := by
  unfold outR
  rw [if_neg (by rintro ⟨i, h, _⟩; simp at h)]

theorem out_eq (q : Int) (l : List (List Int)) : (par q l (l.length + 1) 0 (q, ([], []))).1.1 = q → outU (par q l (l.length + 1) 0 (q, ([], []))).1 l = outR (par q l (l.length + 1) 0 (q, ([], []))) l := by
  intro hq
  generalize hP : par q l (l.length + 1) 0 (q, ([], [])) = P at *
  obtain ⟨t, o⟩ := P
  unfold outU outR
  dsimp only at *
  by_cases h : okT t ∧ (packB t).length ≤ l.length ∧ packB t = l.take (packB t).length
  · rw [if_pos h]
    obtain ⟨h1, h2, h3⟩ := h
    have e : packB t ++ l.drop (packB t).length = l := by
      conv => lhs; lhs; rw [h3]
      exact List.take_append_drop _ _
    have hr := par_pack h1 (l.drop (packB t).length) (l.length + 1) (by rw [e]; omega)
    rw [e, hq, hP] at hr
    have ho : o = some (body t).length := congrArg Prod.snd hr
    have hlen : (packB t).length = (body t).length + 1 := by simp [packB]
    rw [if_pos ⟨(body t).length, ho, h1, hlen, by rw [← hlen]; exact h3⟩]
  · rw [if_neg h, if_neg]
    rintro ⟨i, h1, h2, h3, h4⟩
    have := par_lt q l _ _ _ i (by rw [hP]; exact h1)
    exact h ⟨h2, by omega, by rw [h3]; exact h4⟩

theorem par_seq (q : Int) (l : List (List Int)) : ∀ (n a : Nat) (t : TX), (par q l n a t).1.1 = t.1
  | 0, _, _ => rfl
  | n + 1, a, t => by
    unfold par
    split
    · split
      · rfl
      · split
        · rfl
        · split
          · rw [par_seq q l n]
          · split
            · rfl
            · rw [par_seq q l n]
    · rfl

theorem m26_ok (q : Int) (l : List (List Int)) (hl : l.length ≤ 64) (hb : ∀ b ∈ l, Bytes b ∧ b.length ≤ 140737488355328) : m26 (q, (l, ())) = some (outR (par q l (l.length + 1) 0 (q, ([], []))) l) := by
  apply ok_eq
  unfold m26
  dsimp only
  generalize hP : par q l (l.length + 1) 0 (q, ([], [])) = P
  refine Ok.bind (S := fun r => Sum.elim (fun _ => badU) (fun y => ((y.2.2.1, (y.2.2.2.1, y.2.2.2.2.1)), (y.1, (y.2.1, ())))) r = outR P l) ?_ (fun r hr => ?_)
  rotate_left
  · cases r with
    | inl y => exact Ok.some hr
    | inr y => exact Ok.some hr
  refine Ok.loop l.length (fun i x => ∃ (a : Nat) (t : TX), x = ((a : Int), (0, ([], ([], (t.1, (t.2.1, t.2.2)))))) ∧ i ≤ a ∧ UInv q l a t ∧ par q l (l.length + 1 - i) a t = P)
    ⟨0, (q, ([], [])), rfl, Nat.le_refl _, ⟨rfl, by omega, by simp, by simp, fun p hp => by simp at hp⟩, hP⟩ ?_
  rintro i x hi ⟨a, t, rfl, hia, hI, hpar⟩
  obtain ⟨n, hn⟩ : ∃ n, l.length + 1 - i = n + 1 := ⟨l.length - i, by omega⟩
  rw [hn] at hpar
  have hIa := hI.le
  have hIw := hI.w
  have hIr := hI.r
  have none_bad : (∃ t', P = (t', none)) → badU = outR P l := fun ⟨t', h⟩ => by rw [h, outR_none]
  refine Ok.cond (fun hc => ?_) (fun hc => Ok.inr (none_bad ⟨t, by rw [← hpar, par_stop (by simp only at hc; omega)]⟩))
  have ha : a < l.length := by simp only at hc; omega
  have hba := (hb _ (getD_mem (z := []) ha))
  refine Ok.cond (fun hc64 => ?_) (fun hc64 => absurd (show (a : Int) < 64 by omega) hc64)
  refine Ok.gd (by simp only; omega) (Ok.gd hc ?_)
  simp only [Int.toNat_natCast]
  rw [m44_ok _ hba.1]
  simp only [Option.bind_some]
  refine Ok.ncond (fun h1 => Ok.inr (none_bad ⟨t, by rw [← hpar, par_bad ha (dec1_none fun h => h1 h.1)]⟩)) (fun h1 => ?_)
  refine Ok.ncond (fun h2 => Ok.inr (none_bad ⟨t, by rw [← hpar, par_bad ha (dec1_none fun h => h2 h.2)]⟩)) (fun h2 => ?_)
  have hde := dec1_some h1 h2
  obtain ⟨k1, _, lt, lv, _⟩ := plain_facts (decB_plain h1)
  generalize (decB (l.getD a [])).1 = x at *
  have w1 : IntKind.wrap .i64 ((a : Int) + 1) = ((a + 1 : Nat) : Int) := wsucc (by omega)
  refine Ok.cond (fun hk3 => ?_) (fun hk3 => ?_)
  · rw [par_rev ha hde hk3] at hpar
    refine Ok.gd (by omega) (Ok.gd (by omega) (Ok.inl ⟨by omega, a + 1, (t.1, (t.2.1, t.2.2 ++ x.2.2.2.1)), ?_, by omega, ⟨hI.s, by omega, by show t.2.1.length ≤ _; omega, ?_, hI.d⟩, ?_⟩))
    · rw [w1]
    · show (t.2.2 ++ x.2.2.2.1).length ≤ _
      rw [List.length_append]; omega
    · rw [show l.length + 1 - (i + 1) = n by omega]; exact hpar
  refine Ok.cond (fun hk1 => ?_) (fun hk1 => ?_)
  · refine Ok.bind (S := fun r => (¬ (l.length - (a + 1) < x.2.2.1.length) ∧ r = .inl (((a + x.2.2.1.length : Nat) : Int), (0, ([], ([], (t.1, (t.2.1 ++ wr l (a + 1) x.2.2.1 x.2.2.1.length, t.2.2))))))) ∨
        (l.length - (a + 1) < x.2.2.1.length ∧ r = .inr (0, (170, (0, ([], ([], ((), ((), ()))))))))) ?_ ?_
    · refine Ok.loop x.2.2.1.length (fun j y => a + j < l.length ∧ y = (((a + j : Nat) : Int), ((j : Int), (0, ([], ([], (t.1, (t.2.1 ++ wr l (a + 1) x.2.2.1 j, t.2.2)))))))) ⟨by omega, by simp [wr]⟩ ?_
      rintro j y hj ⟨haj0, rfl⟩
      refine Ok.cond (fun hc2 => ?_) (fun hc2 => ?_)
      rotate_left
      · obtain rfl : j = x.2.2.1.length := by simp only at hc2; omega
        exact Ok.inr (.inl ⟨by omega, rfl⟩)
      have hj' : j < x.2.2.1.length := by simp only at hc2; omega
      have wj : IntKind.wrap .i64 (((a + j : Nat) : Int) + 1) = ((a + 1 + j : Nat) : Int) := by rw [wsucc (by omega), show a + j + 1 = a + 1 + j by omega]
      simp only [wj]
      refine Ok.cond (fun hs => Ok.inr (.inr ⟨by omega, rfl⟩)) (fun hs => ?_)
      have haj : a + 1 + j < l.length := by omega
      have hbj := hb _ (getD_mem (z := []) haj)
      have hwl := wr_len l (a + 1) x.2.2.1 j
      refine Ok.gd (by omega) (Ok.gd hc2 (Ok.gd (by omega) (Ok.gd (by omega) (Ok.gd (by omega) (Ok.gd hc2 ?_)))))
      simp only [Int.toNat_natCast]
      rw [m45_ok _ _ hbj.2]
      simp only [Option.bind_some, List.length_append, hwl, List.length_cons, List.length_nil]
      refine Ok.gd (by omega) (Ok.gd (by omega) (Ok.inl ⟨hj', by omega, ?_⟩))
      rw [wsucc (by omega), wr_succ, List.append_assoc, show a + (j + 1) = a + 1 + j by omega]
    · rintro r (⟨hs, rfl⟩ | ⟨hs, rfl⟩)
      · rw [par_desc ha hde hk1 hs] at hpar
        refine Ok.inl ⟨by omega, a + 1 + x.2.2.1.length, (t.1, (t.2.1 ++ wr l (a + 1) x.2.2.1 x.2.2.1.length, t.2.2)), ?_, by omega, ⟨hI.s, by omega, ?_, ?_, ?_⟩, ?_⟩
        · rw [wsucc (by omega), show a + x.2.2.1.length + 1 = a + 1 + x.2.2.1.length by omega]
        · show (t.2.1 ++ wr l (a + 1) x.2.2.1 x.2.2.1.length).length ≤ _
          rw [List.length_append, wr_len]; omega
        · show t.2.2.length ≤ _
          omega
        · intro p hp
          rcases List.mem_append.1 hp with hp | hp
          · exact hI.d p hp
          · exact wr_ok hb (by omega) p hp
        · rw [show l.length + 1 - (i + 1) = n by omega]; exact hpar
      · exact Ok.inr (none_bad ⟨t, by rw [← hpar, par_short ha hde hk1 hs]⟩)
  · have hk2 : x.1 = 2 := by omega
    rw [par_commit ha hde hk2] at hpar
    have hsm := hI.small hl
    have e27 : m27 ((t.1, (t.2.1, t.2.2)), ()) = _ := m27_ok t hsm
    rw [e27]
    simp only [Option.bind_some]
    subst hpar
    unfold outR
    dsimp only
    by_cases hok : okT t
    rotate_left
    · rw [if_neg hok, if_neg (fun ⟨i, _, h, _⟩ => hok h)]
      exact Ok.ncond (fun _ => Ok.inr rfl) (fun h => absurd h (by decide))
    rw [if_pos hok]
    have hpb := pack_bytes (t := t) fun p hp => (hsm.d p hp).1
    generalize packB t = pk at *
    dsimp only
    simp only [w1]
    refine Ok.ncond (fun h => (h (by simp)).elim) (fun _ => Ok.ncond (fun h => Ok.inr ?_) (fun hlen => ?_))
    · rw [if_neg (fun ⟨i, h1, _, h3, _⟩ => by simp only [Option.some.injEq] at h1; subst h1; omega)]; rfl
    have hlen' : pk.length = a + 1 := by omega
    have htl : (l.take (a + 1)).length = pk.length := by rw [List.length_take]; omega
    refine Ok.bind (S := fun r => (r = .inl (0, ([], [])) ∧ pk = l.take (a + 1)) ∨ (r = .inr (0, (170, (0, ([], [])))) ∧ pk ≠ l.take (a + 1))) ?_ ?_
    · refine Ok.loop pk.length (fun i x => x = ((i : Int), (0, ([], []))) ∧ ∀ j, j < i → pk.getD j [] = (l.take (a + 1)).getD j []) ⟨rfl, fun j hj => by omega⟩ ?_
      rintro i x hi ⟨rfl, h⟩
      refine Ok.cond (fun hc => ?_) (fun hc => Ok.inr (.inl ⟨rfl, ext_getDL htl.symm fun j hj => h j (by simp only at hc; omega)⟩))
      have hi' : i < pk.length := by simp only at hc; omega
      refine Ok.gd (by simp only; omega) (Ok.gd hc (Ok.gd (by simp only; omega) (Ok.gd (by simp only; omega) ?_)))
      simp only [Int.toNat_natCast]
      have hg : (l.take (a + 1)).getD i [] = l.getD i [] := by
        have := getD_chunk l 0 (a + 1) i [] (by omega)
        simpa using this
      have hin := ofNums_inj (hpb _ (getD_mem (z := []) hi')) (hb _ (getD_mem (z := []) (show i < l.length by omega))).1
      refine Ok.condb (fun hne => Ok.inr (.inr ⟨rfl, fun hh => ?_⟩)) (fun he => Ok.inl ⟨hi', ?_, fun j hj => ?_⟩)
      · have h3 := congrArg (fun z => List.getD z i []) hh
        have := hin.2 (h3.trans hg)
        rw [this] at hne; simp at hne
      · rw [wsucc (by omega)]
      · by_cases e : j = i
        · subst e; rw [hg]; exact hin.1 (by simpa using he)
        · exact h j (by omega)
    · rintro r (⟨rfl, h⟩ | ⟨rfl, h⟩)
      · refine Ok.inr ?_
        rw [if_pos ⟨a, rfl, hok, hlen', h⟩, hlen']; rfl
      · refine Ok.inr ?_
        rw [if_neg (fun ⟨i, h1, _, _, h4⟩ => by simp only [Option.some.injEq] at h1; subst h1; exact h h4)]; rfl

theorem unpack_eq (q : Int) (l : List (List Int)) (hl : l.length ≤ 64) (hb : ∀ b ∈ l, Bytes b ∧ b.length ≤ 140737488355328) : m26 (q, (l, ())) = m24 (q, (l, ())) := by
  rw [m24_ok q l hl hb, m26_ok q l hl hb, out_eq q l (by rw [par_seq])]
end Go.Proofs.Ytjleeabhpfmhaaa
end

section
namespace Go.Proofs.Ytjleeabhpfmhaaa
open Go Go.Proofs.AM

def atF (n s k : Int) : Int := if n < 2 ∨ s < 1 ∨ s > n - 1 ∨ k < 0 ∨ k > n - 2 then 0 else if s + k ≥ n then s + k - (n - 1) else s + k

theorem tmodN (a b : Nat) : Int.tmod (a : Int) (b : Int) = ((a % b : Nat) : Int) := rfl

theorem m10_ok (n : Nat) (hn : n ≤ 1000) (s k : Int) : m10 ((n : Int), (s, (k, ()))) = some (atF n s k, ()) := by
  apply ok_eq
  unfold m10
  dsimp only
  refine Ok.cond (fun h => Ok.some ?_) (fun h1 => Ok.cond (fun h => Ok.some ?_) (fun h2 => ?_))
  · unfold atF; rw [if_pos (by omega)]
  · unfold atF; rw [if_pos (by omega)]
  have w1 : IntKind.wrap .i64 ((n : Int) - 1) = (n : Int) - 1 := wrap64 (by omega) (by omega)
  have w2 : IntKind.wrap .i64 ((n : Int) - 2) = (n : Int) - 2 := wrap64 (by omega) (by omega)
  rw [w1, w2]
  refine Ok.cond (fun h => Ok.some ?_) (fun h3 => Ok.cond (fun h => Ok.some ?_) (fun h4 => Ok.cond (fun h => Ok.some ?_) (fun h5 => Ok.ite (fun h => absurd h (by omega)) (fun h6 => Ok.some ?_))))
  · unfold atF; rw [if_pos (by omega)]
  · unfold atF; rw [if_pos (by omega)]
  · unfold atF; rw [if_pos (by omega)]
  obtain ⟨s, rfl⟩ : ∃ m : Nat, s = m := ⟨s.toNat, by omega⟩
  obtain ⟨k, rfl⟩ : ∃ m : Nat, k = m := ⟨k.toNat, by omega⟩
  rw [wrap64 (n := (s : Int) - 1) (by omega) (by omega), show (s : Int) - 1 + (k : Int) = ((s - 1 + k : Nat) : Int) by omega, show (n : Int) - 1 = ((n - 1 : Nat) : Int) by omega,
    wrap64 (n := ((s - 1 + k : Nat) : Int)) (by omega) (by omega), tmodN]
  unfold atF
  rw [if_neg (by omega)]
  by_cases hge : s - 1 + k < n - 1
  · rw [Nat.mod_eq_of_lt hge, if_neg (by omega), wrap64 (by omega) (by omega)]
    congr 1; omega
  · rw [Nat.mod_eq_sub_mod (by omega), Nat.mod_eq_of_lt (by omega), if_pos (by omega), wrap64 (by omega) (by omega)]
    congr 1; omega

theorem m11_ok (n : Nat) (hn : n ≤ 1000) (s k : Int) : m11 ((n : Int), (s, (k, ()))) = some (atF n s k, ()) := by
  apply ok_eq
  unfold m11
  dsimp only
  refine Ok.cond (fun h => Ok.some ?_) (fun h1 => Ok.cond (fun h => Ok.some ?_) (fun h2 => ?_))
  · unfold atF; rw [if_pos (by omega)]
  · unfold atF; rw [if_pos (by omega)]
  have w1 : IntKind.wrap .i64 ((n : Int) - 1) = (n : Int) - 1 := wrap64 (by omega) (by omega)
  have w2 : IntKind.wrap .i64 ((n : Int) - 2) = (n : Int) - 2 := wrap64 (by omega) (by omega)
  rw [w1, w2]
  refine Ok.cond (fun h => Ok.some ?_) (fun h3 => Ok.cond (fun h => Ok.some ?_) (fun h4 => Ok.cond (fun h => Ok.some ?_) (fun h5 => ?_)))
  · unfold atF; rw [if_pos (by omega)]
  · unfold atF; rw [if_pos (by omega)]
  · unfold atF; rw [if_pos (by omega)]
  have w3 : IntKind.wrap .i64 (s + k) = s + k := wrap64 (by omega) (by omega)
  simp only [w3]
  refine Ok.cond (fun h => Ok.some ?_) (fun h => Ok.some ?_)
  · unfold atF; rw [if_neg (by omega), if_pos (by omega), wrap64 (by omega) (by omega)]
  · unfold atF; rw [if_neg (by omega), if_neg (by omega)]

theorem atF_in {n s k : Int} (h1 : 2 ≤ n) (h2 : 1 ≤ s) (h3 : s ≤ n - 1) (h4 : 0 ≤ k) (h5 : k ≤ n - 2) : 1 ≤ atF n s k ∧ atF n s k < n := by
  unfold atF
  rw [if_neg (by omega)]
  split <;> omega

noncomputable def unp (q : Int) (l : List (List Int)) : UR := outU (par q l (l.length + 1) 0 (q, ([], []))).1 l

theorem unp_facts {q : Int} {l : List (List Int)} (h : (unp q l).2.2.1 = 0) : ∃ m : Nat, (unp q l).2.1 = (m : Int) ∧ 1 ≤ m ∧ m ≤ l.length ∧ okT (unp q l).1 := by
  unfold unp outU at *
  split
  · rename_i hc
    exact ⟨_, rfl, by simp [packB], hc.2.1, hc.1⟩
  · rename_i hc
    rw [if_neg hc] at h
    exact absurd h (by decide)

open Classical in
noncomputable def scn (ring : List (List Int)) : Nat → Nat → List TX → Int → Nat × (List TX × Int)
  | 0, a, T, q => (a, (T, q))
  | n + 1, a, T, q => if q ≤ 281474976710656 ∧ a < ring.length ∧ (unp q (ring.drop a)).2.2.1 = 0 then scn ring n (a + (unp q (ring.drop a)).2.1.toNat) (T ++ [(unp q (ring.drop a)).1]) (q + 1) else (a, (T, q))

structure SInv (ring : List (List Int)) (i a : Nat) (T : List TX) (q : Int) (F : Nat × (List TX × Int)) : Prop where
  ia : i ≤ a
  le : a ≤ ring.length
  tl : T.length ≤ a
  ok : ∀ t ∈ T, okT t
  q1 : 1 ≤ q
  q2 : q ≤ 281474976710657
  eq : scn ring (ring.length + 1 - i) a T q = F

theorem SInv.stop {ring : List (List Int)} {i a : Nat} {T : List TX} {q : Int} {F : Nat × (List TX × Int)} (h : SInv ring i a T q F) (hi : i ≤ ring.length) (hs : ¬ (q ≤ 281474976710656 ∧ a < ring.length ∧ (unp q (ring.drop a)).2.2.1 = 0)) : F = (a, (T, q)) := by
  have := h.eq
  rw [show ring.length + 1 - i = (ring.length - i) + 1 by omega, scn, if_neg hs] at this
  exact this.symm

theorem SInv.go {ring : List (List Int)} {i a : Nat} {T : List TX} {q : Int} {F : Nat × (List TX × Int)} (h : SInv ring i a T q F) (hi : i ≤ ring.length) (h1 : q ≤ 281474976710656) (h2 : a < ring.length) (h3 : (unp q (ring.drop a)).2.2.1 = 0) :
    i < ring.length ∧ ∃ m : Nat, (unp q (ring.drop a)).2.1 = (m : Int) ∧ a + m ≤ ring.length ∧ SInv ring (i + 1) (a + m) (T ++ [(unp q (ring.drop a)).1]) (q + 1) F := by
  obtain ⟨m, hm, m1, m2, hok⟩ := unp_facts h3
  rw [List.length_drop] at m2
  have := h.eq
  have hia := h.ia
  have htl := h.tl
  have hq1 := h.q1
  rw [show ring.length + 1 - i = (ring.length - i) + 1 by omega, scn, if_pos ⟨h1, h2, h3⟩, hm] at this
  refine ⟨by omega, m, hm, by omega, by omega, by omega, by simp; omega, fun t ht => ?_, by omega, by omega, ?_⟩
  · rcases List.mem_append.1 ht with ht | ht
    · exact h.ok t ht
    · rw [List.mem_singleton] at ht
      subst ht; exact hok
  · rw [show ring.length + 1 - (i + 1) = ring.length - i by omega]
    simpa using this

abbrev LG := (List TyT) × (Int × Int)
abbrev SR := LG × (Int × Unit)

def ringF (region : List (List Int)) (s : Int) (k : Nat) : List (List Int) := (List.range k).map fun (i : Nat) => region.getD (atF (region.length : Int) s (i : Int)).toNat []
theorem ringF_succ (region : List (List Int)) (s : Int) (k : Nat) : ringF region s (k + 1) = ringF region s k ++ [region.getD (atF (region.length : Int) s (k : Int)).toNat []] := by unfold ringF; rw [List.range_succ, List.map_append]; rfl
theorem ringF_len (region : List (List Int)) (s : Int) (k : Nat) : (ringF region s k).length = k := by simp [ringF]

noncomputable def scanR (region : List (List Int)) (s q : Int) : SR :=
  (((scn (ringF region s (region.length - 1)) region.length 0 [] q).2.1,
    (atF (region.length : Int) s (((scn (ringF region s (region.length - 1)) region.length 0 [] q).1 % (region.length - 1) : Nat) : Int), (scn (ringF region s (region.length - 1)) region.length 0 [] q).2.2)), (0, ()))

open Classical in
noncomputable def scanF (region : List (List Int)) : SR :=
  if region.length < 16 ∨ 64 < region.length then (([], (0, 0)), (1, ()))
  else if (dsup (region.getD 0 [])).2.1 = 0 then
    (if (dsup (region.getD 0 [])).1.1 ≥ (region.length : Int) then (([], (0, 0)), (170, ()))
     else if (dsup (region.getD 0 [])).1.1 = 0 then (([], (1, (dsup (region.getD 0 [])).1.2)), (0, ()))
     else scanR region (dsup (region.getD 0 [])).1.1 (dsup (region.getD 0 [])).1.2)
  else (([], (0, 0)), (170, ()))

theorem dsup_ok {b : List Int} (h : (dsup b).2.1 = 0) : okS (dsup b).1.1 (dsup b).1.2 := by
  unfold dsup at *
  split
  · rename_i hc; exact hc.2.1
  · rename_i hc
    rw [if_neg hc] at h
    exact absurd h (by decide)
theorem dsup_bad {b : List Int} (h : ¬ (dsup b).2.1 = 0) : (dsup b).2.1 = 170 := by
  unfold dsup at *
  split
  · rename_i hc
    rw [if_pos hc] at h
    exact absurd rfl h
  · rfl

theorem scan_start (ring : List (List Int)) (n : Nat) (hn : ring.length + 1 = n) (q : Int) (h1 : 1 ≤ q) (h2 : q ≤ 281474976710656) : SInv ring 0 0 [] q (scn ring n 0 [] q) :=
  ⟨Nat.le_refl _, by omega, by simp, fun t h => by simp at h, h1, by omega, by rw [← hn]; simp⟩

theorem m7_ok (region : List (List Int)) (hl : region.length ≤ 140737488355328) (hb : ∀ b ∈ region, Bytes b ∧ b.length ≤ 140737488355328) :
    Ok (m7 (region, ())) (fun r => r = scanF region ∧ r.1.1.length ≤ 64 ∧ ∀ t ∈ r.1.1, okT t) := by
  unfold m7
  dsimp only
  have nil : ([] : List TX).length ≤ 64 ∧ ∀ t ∈ ([] : List TX), okT t := ⟨by simp, fun t h => by simp at h⟩
  refine Ok.cond (fun h16 => Ok.ncond (fun h => Ok.some ⟨?_, nil⟩) (fun h64 => ?_)) (fun h => Ok.some ⟨?_, nil⟩)
  · unfold scanF; rw [if_pos (by omega)]
  rotate_left
  · unfold scanF; rw [if_pos (by omega)]
  refine Ok.gd (by omega) ?_
  have h0 : (region.getD (Int.toNat 0) []) = region.getD 0 [] := rfl
  have hb0 := hb _ (getD_mem (z := []) (show 0 < region.length by omega))
  have hgs : ¬ (region.length < 16 ∨ 64 < region.length) := by omega
  rw [h0, m23_ok _ hb0.1]
  simp only [Option.bind_some]
  refine Ok.ncond (fun h => Ok.some ⟨?_, nil⟩) (fun h => ?_)
  · unfold scanF; rw [if_neg hgs, if_neg h, dsup_bad h]
  have hds := dsup_ok h
  refine Ok.cond (fun h1 => Ok.some ⟨?_, nil⟩) (fun h1 => Ok.cond (fun h2 => Ok.some ⟨?_, nil⟩) (fun h2 => ?_))
  · unfold scanF; rw [if_neg hgs, if_pos h, if_pos h1]
  · unfold scanF; rw [if_neg hgs, if_pos h, if_neg h1, if_pos h2]
  have hres : scanF region = scanR region (dsup (region.getD 0 [])).1.1 (dsup (region.getD 0 [])).1.2 := by unfold scanF; rw [if_neg hgs, if_pos h, if_neg h1, if_neg h2]
  rw [hres]
  obtain ⟨s0, s1, q0, q1⟩ := hds
  generalize (dsup (region.getD 0 [])).1.1 = s at *
  generalize (dsup (region.getD 0 [])).1.2 = q at *
  unfold scanR
  have w1 : IntKind.wrap .i64 (((region.length : Nat) : Int) - 1) = ((region.length - 1 : Nat) : Int) := by rw [wrap64 (by omega) (by omega)]; omega
  simp only [w1]
  refine Ok.bind (S := fun r => r = ringF region s (region.length - 1)) ?_ (fun r hr => ?_)
  · refine Ok.loop (region.length - 1) (fun i x => x = (ringF region s i, (i : Int))) rfl ?_
    rintro i x hi rfl
    refine Ok.cond (fun hc => ?_) (fun hc => ?_)
    rotate_left
    · obtain rfl : i = region.length - 1 := by simp only at hc; omega
      exact Ok.inr rfl
    simp only at hc
    have ha := atF_in (n := (region.length : Int)) (s := s) (k := (i : Int)) (by omega) (by omega) (by omega) (by omega) (by omega)
    have hrl := ringF_len region s i
    dsimp only
    rw [m10_ok region.length (by omega)]
    simp only [Option.bind_some, List.length_cons, List.length_nil, hrl]
    refine Ok.gd (by omega) (Ok.gd (by omega) (Ok.gd (by omega) (Ok.gd (by omega) (Ok.inl ⟨by omega, ?_⟩))))
    rw [wsucc (by omega), ringF_succ]
  subst hr
  have hrl := ringF_len region s (region.length - 1)
  have hrb : ∀ b ∈ ringF region s (region.length - 1), Bytes b ∧ b.length ≤ 140737488355328 := by
    intro b hbm
    unfold ringF at hbm
    obtain ⟨i, hi, rfl⟩ := List.mem_map.1 hbm
    have hi := List.mem_range.1 hi
    have ha := atF_in (n := (region.length : Int)) (s := s) (k := (i : Int)) (by omega) (by omega) (by omega) (by omega) (by omega)
    exact hb _ (getD_mem (by omega))
  have hst := scan_start (ringF region s (region.length - 1)) region.length (by omega) q q0 q1
  generalize ringF region s (region.length - 1) = ring at *
  generalize scn ring region.length 0 [] q = F at *
  refine Ok.bind (S := fun r => r = ((F.1 : Int), (F.2.1, (0, F.2.2))) ∧ F.1 ≤ ring.length ∧ F.2.1.length ≤ 64 ∧ ∀ t ∈ F.2.1, okT t) ?_ (fun r hr => ?_)
  · refine Ok.loop ring.length (fun i x => ∃ (a : Nat) (T : List TX) (q' : Int), x = ((a : Int), (T, (0, q'))) ∧ SInv ring i a T q' F) ⟨0, [], q, rfl, hst⟩ ?_
    rintro i x hi ⟨a, T, q', rfl, hI⟩
    have hia := hI.le
    have hit := hI.tl
    have hq1 := hI.q1
    have hq2 := hI.q2
    have stop : ¬ (q' ≤ 281474976710656 ∧ a < ring.length ∧ (unp q' (ring.drop a)).2.2.1 = 0) → Ok (some (Sum.inr ((a : Int), (T, ((0 : Int), q'))))) (fun s : ((Int × ((List TyT) × (Int × Int))) ⊕ (Int × ((List TyT) × (Int × Int)))) => s.elim (fun y => i < ring.length ∧ ∃ (a : Nat) (T : List TX) (q' : Int), y = ((a : Int), (T, (0, q'))) ∧ SInv ring (i + 1) a T q' F) (fun r => r = ((F.1 : Int), (F.2.1, (0, F.2.2))) ∧ F.1 ≤ ring.length ∧ F.2.1.length ≤ 64 ∧ ∀ t ∈ F.2.1, okT t)) := fun h => by
      have := hI.stop hi h
      rw [this]
      exact Ok.inr ⟨rfl, hia, by show T.length ≤ 64; omega, hI.ok⟩
    refine Ok.cond (fun hqm => Ok.cond (fun hc => ?_) (fun hc => stop (fun h => hc (by show (a : Int) < _; omega)))) (fun hqm => stop (fun h => hqm h.1))
    have hc' : a < ring.length := by simp only at hc; omega
    have et : List.take (Int.toNat ((ring.length : Nat) : Int) - Int.toNat ((a : Nat) : Int)) (List.drop (Int.toNat ((a : Nat) : Int)) ring) = ring.drop a := by
      rw [Int.toNat_natCast, Int.toNat_natCast]
      exact List.take_of_length_le (by simp)
    simp only [et]
    refine Ok.gd (by omega) (Ok.gd (by omega) (Ok.gd (by omega) ?_))
    have hm24 : m24 (q', (ring.drop a, ())) = some (unp q' (ring.drop a)) := m24_ok q' (ring.drop a) (by rw [List.length_drop]; omega) (fun b hb => hrb b (List.mem_of_mem_drop hb))
    rw [hm24]
    simp only [Option.bind_some]
    refine Ok.ncond (fun h => stop (fun h2 => h h2.2.2)) (fun h3 => ?_)
    obtain ⟨hil, m, hm, ham, hI2⟩ := hI.go hi hqm hc' h3
    rw [hm]
    simp only [List.length_cons, List.length_nil]
    refine Ok.gd (by omega) (Ok.gd (by omega) (Ok.inl ⟨hil, a + m, _, q' + 1, ?_, hI2⟩))
    rw [wrap64 (by omega) (by omega), wrap64 (by omega) (by omega)]
    push_cast; rfl
  obtain ⟨rfl, hF1, hF2, hF3⟩ := hr
  refine Ok.ite (fun h => absurd h (by omega)) (fun _ => ?_)
  dsimp only
  rw [tmodN, m10_ok region.length (by omega)]
  exact Ok.some ⟨rfl, hF2, hF3⟩

theorem m8_ok (region : List (List Int)) (hl : region.length ≤ 140737488355328) (hb : ∀ b ∈ region, Bytes b ∧ b.length ≤ 140737488355328) : m8 (region, ()) = some (scanF region) := by
  apply ok_eq
  unfold m8
  dsimp only
  refine Ok.cond (fun h => Ok.some ?_) (fun h16 => Ok.cond (fun h => Ok.some ?_) (fun h64 => ?_))
  · unfold scanF; rw [if_pos (by omega)]
  · unfold scanF; rw [if_pos (by omega)]
  refine Ok.gd (by omega) ?_
  have h0 : (region.getD (Int.toNat 0) []) = region.getD 0 [] := rfl
  have hb0 := hb _ (getD_mem (z := []) (show 0 < region.length by omega))
  have hgs : ¬ (region.length < 16 ∨ 64 < region.length) := by omega
  rw [h0, m25_ok _ hb0.1 hb0.2]
  simp only [Option.bind_some]
  refine Ok.ncond (fun h => Ok.some ?_) (fun h => ?_)
  · unfold scanF; rw [if_neg hgs, if_neg h, dsup_bad h]
  have hds := dsup_ok h
  refine Ok.cond (fun h1 => Ok.some ?_) (fun h1 => Ok.cond (fun h2 => Ok.some ?_) (fun h2 => ?_))
  · unfold scanF; rw [if_neg hgs, if_pos h, if_pos h1]
  · unfold scanF; rw [if_neg hgs, if_pos h, if_neg h1, if_pos h2]
  have hres : scanF region = scanR region (dsup (region.getD 0 [])).1.1 (dsup (region.getD 0 [])).1.2 := by unfold scanF; rw [if_neg hgs, if_pos h, if_neg h1, if_neg h2]
  rw [hres]
  obtain ⟨s0, s1, q0, q1⟩ := hds
  generalize (dsup (region.getD 0 [])).1.1 = s at *
  generalize (dsup (region.getD 0 [])).1.2 = q at *
  unfold scanR
  have w1 : IntKind.wrap .i64 (((region.length : Nat) : Int) - 1) = ((region.length - 1 : Nat) : Int) := by rw [wrap64 (by omega) (by omega)]; omega
  simp only [w1]
  refine Ok.bind (S := fun r => r = ringF region s (region.length - 1)) ?_ (fun r hr => ?_)
  · refine Ok.loop (region.length - 1) (fun i x => x = (ringF region s i, (i : Int))) rfl ?_
    rintro i x hi rfl
    refine Ok.cond (fun hc => ?_) (fun hc => ?_)
    rotate_left
    · obtain rfl : i = region.length - 1 := by simp only at hc; omega
      exact Ok.inr rfl
    simp only at hc
    have ha := atF_in (n := (region.length : Int)) (s := s) (k := (i : Int)) (by omega) (by omega) (by omega) (by omega) (by omega)
    have hrl := ringF_len region s i
    dsimp only
    rw [m11_ok region.length (by omega)]
    simp only [Option.bind_some, List.length_cons, List.length_nil, hrl]
    refine Ok.gd (by omega) (Ok.gd (by omega) (Ok.gd (by omega) (Ok.gd (by omega) (Ok.inl ⟨by omega, ?_⟩))))
    rw [wsucc (by omega), ringF_succ]
  subst hr
  have hrl := ringF_len region s (region.length - 1)
  have hrb : ∀ b ∈ ringF region s (region.length - 1), Bytes b ∧ b.length ≤ 140737488355328 := by
    intro b hbm
    unfold ringF at hbm
    obtain ⟨i, hi, rfl⟩ := List.mem_map.1 hbm
    have hi := List.mem_range.1 hi
    have ha := atF_in (n := (region.length : Int)) (s := s) (k := (i : Int)) (by omega) (by omega) (by omega) (by omega) (by omega)
    exact hb _ (getD_mem (by omega))
  have hst := scan_start (ringF region s (region.length - 1)) region.length (by omega) q q0 q1
  generalize ringF region s (region.length - 1) = ring at *
  generalize scn ring region.length 0 [] q = F at *
  refine Ok.bind (S := fun r => r = ((F.1 : Int), (F.2.1, (1, F.2.2))) ∧ F.1 ≤ ring.length) ?_ (fun r hr => ?_)
  · refine Ok.loop ring.length (fun i x => ∃ (a : Nat) (T : List TX) (q' : Int), x = ((a : Int), (T, (1, q'))) ∧ SInv ring i a T q' F) ⟨0, [], q, rfl, hst⟩ ?_
    rintro i x hi ⟨a, T, q', rfl, hI⟩
    have hia := hI.le
    have hit := hI.tl
    have hq1 := hI.q1
    have hq2 := hI.q2
    have stop : ¬ (q' ≤ 281474976710656 ∧ a < ring.length ∧ (unp q' (ring.drop a)).2.2.1 = 0) → Ok (some (Sum.inr ((a : Int), (T, ((1 : Int), q'))))) (fun s : ((Int × ((List TyT) × (Int × Int))) ⊕ (Int × ((List TyT) × (Int × Int)))) => s.elim (fun y => i < ring.length ∧ ∃ (a : Nat) (T : List TX) (q' : Int), y = ((a : Int), (T, (1, q'))) ∧ SInv ring (i + 1) a T q' F) (fun r => r = ((F.1 : Int), (F.2.1, (1, F.2.2))) ∧ F.1 ≤ ring.length)) := fun h => by
      have := hI.stop hi h
      rw [this]
      exact Ok.inr ⟨rfl, hia⟩
    refine Ok.cond (fun hqm => ?_) (fun hqm => stop (fun h => hqm h.1))
    have et : List.take (Int.toNat ((ring.length : Nat) : Int) - Int.toNat ((a : Nat) : Int)) (List.drop (Int.toNat ((a : Nat) : Int)) ring) = ring.drop a := by
      rw [Int.toNat_natCast, Int.toNat_natCast]
      exact List.take_of_length_le (by simp)
    simp only [et]
    refine Ok.gd (by omega) (Ok.gd (by omega) (Ok.gd (by omega) ?_))
    have hm26 : m26 (q', (ring.drop a, ())) = some (unp q' (ring.drop a)) := (unpack_eq q' (ring.drop a) (by rw [List.length_drop]; omega) (fun b hb => hrb b (List.mem_of_mem_drop hb))).trans
      (m24_ok q' (ring.drop a) (by rw [List.length_drop]; omega) (fun b hb => hrb b (List.mem_of_mem_drop hb)))
    rw [hm26]
    simp only [Option.bind_some]
    refine Ok.ncond (fun h => stop (fun h2 => h h2.2.2)) (fun h3 => ?_)
    have hc' : a < ring.length := by
      obtain ⟨m, _, m1, m2, _⟩ := unp_facts h3
      rw [List.length_drop] at m2
      omega
    obtain ⟨hil, m, hm, ham, hI2⟩ := hI.go hi hqm hc' h3
    rw [hm]
    simp only [List.length_cons, List.length_nil]
    refine Ok.gd (by omega) (Ok.gd (by omega) (Ok.inl ⟨hil, a + m, _, q' + 1, ?_, hI2⟩))
    rw [wrap64 (by omega) (by omega), wrap64 (by omega) (by omega)]
    push_cast; rfl
  obtain ⟨rfl, hF1⟩ := hr
  refine Ok.cond (fun hc => ?_) (fun hc => Ok.some ?_)
  · simp only at hc
    dsimp only
    rw [m11_ok region.length (by omega), Nat.mod_eq_of_lt (by omega)]
    exact Ok.some rfl
  · simp only at hc
    have e : F.1 = region.length - 1 := by omega
    rw [e, Nat.mod_self]
    have : atF (region.length : Int) s ((0 : Nat) : Int) = s := by
      unfold atF; rw [if_neg (by omega), if_neg (by omega)]; simp
    rw [this]

theorem m29_self (l : List Int) (h : l.length ≤ 100000) : m29 (l, (l, ())) = some (true, ()) := by
  apply ok_eq
  unfold m29
  dsimp only
  refine Ok.ncond (fun h => (h rfl).elim) (fun _ => Ok.bind (S := fun r => r = .inl ()) ?_ (fun r hr => by subst hr; exact Ok.some rfl))
  refine Ok.loop l.length (fun i x => x = (i : Int)) rfl ?_
  rintro i x hi rfl
  refine Ok.cond (fun hc => ?_) (fun hc => Ok.inr rfl)
  exact Ok.gd (by omega) (Ok.gd hc (Ok.gd (by omega) (Ok.gd hc (Ok.ncond (fun h => (h rfl).elim) (fun _ => Ok.inl ⟨by omega, wsucc (by omega)⟩)))))

theorem m16_self (l : List (Int × List Int)) (h : l.length ≤ 100000) : m16 (l, (l, ())) = some (true, ()) := by
  apply ok_eq
  unfold m16
  dsimp only
  refine Ok.ncond (fun h => (h rfl).elim) (fun _ => Ok.bind (S := fun r => r = .inl ()) ?_ (fun r hr => by subst hr; exact Ok.some rfl))
  refine Ok.loop l.length (fun i x => x = (i : Int)) rfl ?_
  rintro i x hi rfl
  refine Ok.cond (fun hc => ?_) (fun hc => Ok.inr rfl)
  refine Ok.gd (by omega) (Ok.gd hc (Ok.gd (by omega) (Ok.gd hc (Ok.ncond (fun h => (h rfl).elim) (fun _ => Ok.gd (by omega) (Ok.gd hc (Ok.gd (by omega) (Ok.gd hc ?_))))))))
  have : ∀ b : ByteArray, streq b b = true := fun b => (streq_iff b b).2 rfl
  rw [this]
  exact Ok.condb (fun h => absurd h (by decide)) (fun _ => Ok.inl ⟨by omega, wsucc (by omega)⟩)

theorem m14_self (t : TX) (h1 : t.2.1.length ≤ 100000) (h2 : t.2.2.length ≤ 100000) : m14 (t, (t, ())) = some (true, ()) := by
  apply ok_eq
  unfold m14
  dsimp only
  refine Ok.cond (fun _ => ?_) (fun h => (h rfl).elim)
  rw [m16_self _ h1]
  simp only [Option.bind_some, cond_true]
  rw [m29_self _ h2]
  exact Ok.some rfl

theorem m9_self (a : LG) (h : a.1.length ≤ 100000) (ht : ∀ t ∈ a.1, okT t) : m9 (a, (a, ())) = some (true, ()) := by
  apply ok_eq
  unfold m9
  dsimp only
  refine Ok.ncond (fun h => (h rfl).elim) (fun _ => Ok.ncond (fun h => (h rfl).elim) (fun _ => Ok.ncond (fun h => (h rfl).elim) (fun _ => Ok.bind (S := fun r => r = .inl ()) ?_ (fun r hr => by subst hr; exact Ok.some rfl))))
  refine Ok.loop a.1.length (fun i x => x = (i : Int)) rfl ?_
  rintro i x hi rfl
  refine Ok.cond (fun hc => Ok.cond (fun h => absurd h (by omega)) (fun _ => ?_)) (fun hc => Ok.inr rfl)
  refine Ok.gd (by omega) (Ok.gd hc (Ok.gd (by omega) (Ok.gd hc ?_)))
  simp only [Int.toNat_natCast]
  have hm := okT_facts (ht _ (getD_mem (z := ((0 : Int), (([] : List (Int × (List Int))), ([] : List Int)))) (show i < a.1.length by omega)))
  rw [m14_self _ (by omega) (by omega)]
  simp only [Option.bind_some]
  exact Ok.condb (fun h => absurd h (by decide)) (fun _ => Ok.inl ⟨by omega, wsucc (by omega)⟩)
end Go.Proofs.Ytjleeabhpfmhaaa
end

section
namespace Go.Proofs.Ytjleeabhpfmhaaa
open Go Go.Proofs.AM

abbrev DK := (List (List Int)) × ((List Bool) × (Bool × (Bool × (Int × (Int × (List (Int × (List Int))))))))
def D (S : List (List Int)) (w : Int) (g : List (Int × List Int)) : DK := (S, (List.replicate 20 false, (false, (false, (0, (w, g))))))
def Z : List Int := List.replicate 256 0

theorem m137_D (S : List (List Int)) (w : Int) (g : List (Int × List Int)) (h : S.length = 20) : m137 (D S w g, ()) = some (D S w g, (20, ())) := by
  apply ok_eq
  unfold m137 D
  dsimp only
  refine Ok.cond (fun h2 => absurd h2 (by omega)) (fun _ => Ok.some ?_)
  rw [h]; rfl

theorem m134_D (S : List (List Int)) (w : Int) (g : List (Int × List Int)) (h : S.length = 20) : m134 (D S w g, ()) = some (D S w g, (0, ())) := by
  apply ok_eq
  unfold m134 D
  dsimp only
  refine Ok.cond (fun h2 => absurd h2 (by omega)) (fun _ => Ok.some rfl)

theorem m135_D (S : List (List Int)) (w : Int) (g : List (Int × List Int)) (h : S.length = 20) (hS : ∀ b ∈ S, b.length = 256) (i : Nat) (hi : i < 20) : m135 (D S w g, ((i : Int), ())) = some (D S w g, (S.getD i [], (0, ()))) := by
  apply ok_eq
  unfold m135 D
  dsimp only
  have hrl : (List.replicate 20 false).length = 20 := List.length_replicate
  refine Ok.cond (fun h2 => absurd h2 (by omega)) (fun _ => Ok.condb (fun h => by simp at h) (fun _ => Ok.cond (fun _ => Ok.ncond (fun h2 => absurd (by omega) h2) (fun _ => ?_)) (fun h2 => absurd (by omega) h2)))
  refine Ok.gd (by omega) (Ok.gd (by rw [hrl]; omega) (Ok.gd (by rw [hrl]; omega) (Ok.condb (fun h2 => ?_) (fun _ => Ok.gd (by omega) (Ok.gd (by omega) (Ok.gd (by omega) ?_))))))
  · rw [List.getD_eq_getElem?_getD, List.getElem?_replicate] at h2
    split at h2 <;> simp at h2
  · simp only [Int.toNat_natCast]
    have := hS _ (getD_mem (z := []) (show i < S.length by omega))
    rw [m52_ok _ (by omega)]
    exact Ok.some rfl

theorem m138_D (S : List (List Int)) (h : S.length = 20) (b : List Int) (hb : b.length = 256) : m138 (D S 0 [], ((2 : Int), (b, ()))) = some (D (S.set 2 b) 1 [(2, b)], (0, ())) := by
  apply ok_eq
  unfold m138 D
  dsimp only
  have hrl : (List.replicate 20 false).length = 20 := List.length_replicate
  refine Ok.cond (fun h2 => absurd h2 (by omega)) (fun _ => Ok.condb (fun h => by simp at h) (fun _ => Ok.cond (fun _ => Ok.ncond (fun h2 => absurd (by omega) h2) (fun _ => Ok.ncond (fun h2 => absurd (by omega) h2) (fun _ => Ok.condb (fun h => by simp at h) (fun _ => ?_)))) (fun h2 => absurd (by omega) h2)))
  rw [m52_ok b (by omega)]
  simp only [Option.bind_some]
  refine Ok.gd (by omega) (Ok.gd (by omega) (Ok.gd (by rw [h]; decide) (Ok.gd (by omega) (Ok.gd (by rw [hrl]; decide) (Ok.gd (by rw [hrl]; decide) ?_)))))
  simp only [List.nil_append, List.length_cons, List.length_nil]
  have hw : IntKind.wrap .i64 ((((0 + 1 : Nat) : Int)) - 1024) = -1023 := by rw [wrap64 (by omega) (by omega)]; rfl
  simp only [hw, show ¬ ((-1023 : Int) > 0) by decide, if_false]
  refine Ok.gd (by omega) (Ok.gd (by omega) (Ok.gd (by omega) (Ok.gd (by omega) (Ok.gd (by omega) (Ok.some ?_)))))
  rfl

theorem supF_parts (s q : Nat) : ((supF s q).drop 4).take 4 = be s 4 ∧ ((supF s q).drop 8).take 8 = be q 8 := by
  have e : ∃ z, supF s q = be 1397508656 4 ++ (be s 4 ++ (be q 8 ++ z)) := ⟨List.replicate 236 0 ++ be (Zn (sup s q) (sup s q).length) 4, by simp only [supF, sealed, sup, List.append_assoc]⟩
  obtain ⟨z, e⟩ := e
  have d4 : (supF s q).drop 4 = be s 4 ++ (be q 8 ++ z) := by rw [e, drop_len _ _ _ (be_len _ _)]
  refine ⟨by rw [d4, take_len _ _ _ (be_len _ _)], ?_⟩
  rw [show (8 : Nat) = 4 + 4 from rfl, ← List.drop_drop, d4, drop_len _ _ _ (be_len _ _), take_len _ _ _ (be_len _ _)]

theorem dsup_supF (s q : Nat) (h : okS s q) : dsup (supF s q) = (((s : Int), (q : Int)), (0, ())) := by
  obtain ⟨e1, e2⟩ := supF_parts s q
  obtain ⟨s0, s1, q0, q1⟩ := h
  have v1 : val (be s 4) = s := val_be (by omega)
  have v2 : val (be q 8) = q := val_be (by omega)
  unfold dsup
  rw [e1, e2, v1, v2]
  rw [if_pos ⟨by rw [supF, sealed_len, sup_len], ⟨s0, s1, q0, q1⟩, rfl⟩]

theorem Z_bytes : Bytes Z := Bytes.zeros _

theorem m7_live (l : List (List Int)) (hl : l.length = 16) (hb : ∀ b ∈ l, Bytes b ∧ b.length = 256) (h0 : l.getD 0 [] = supF 0 1) : m7 (l, ()) = some (([], (1, 1)), (0, ())) := by
  obtain ⟨r, hr, he, _⟩ := m7_ok l (by omega) (fun b hm => ⟨(hb b hm).1, by have := (hb b hm).2; omega⟩)
  rw [hr, he]
  have hd : dsup (l.getD 0 []) = (((0 : Int), (1 : Int)), (0, ())) := by rw [h0]; exact dsup_supF 0 1 ⟨by decide, by decide, by decide, by decide⟩
  unfold scanF
  rw [hd, if_neg (by omega), if_pos rfl, if_neg (by rw [hl]; decide), if_pos rfl]

def rd (S : List (List Int)) (k : Nat) : List (List Int) := (List.range k).map fun j => S.getD (2 + j) []
theorem rd_succ (S : List (List Int)) (k : Nat) : rd S (k + 1) = rd S k ++ [S.getD (2 + k) []] := by unfold rd; rw [List.range_succ, List.map_append]; rfl
theorem rd_len (S : List (List Int)) (k : Nat) : (rd S k).length = k := by simp [rd]

theorem m6_ok : m6 () = some (true, ()) := by
  apply ok_eq
  unfold m6
  refine Ok.gd (by decide) ?_
  refine Ok.bind (S := fun r => r = D (List.replicate 20 Z) 0 []) ?_ (fun r hr => ?_)
  · refine Ok.loop 20 (fun i x => x = ((i : Int), D (List.replicate i Z) 0 [])) rfl ?_
    rintro i x hi rfl
    refine Ok.cond (fun hc => ?_) (fun hc => ?_)
    rotate_left
    · obtain rfl : i = 20 := by simp only at hc; omega
      exact Ok.inr rfl
    have hi' : i < 20 := by simp only at hc; omega
    have hZ : List.replicate (Int.toNat 256) (0 : Int) = Z := rfl
    have hl : (List.replicate i Z).length = i := List.length_replicate
    unfold D
    simp only [hZ, List.length_cons, List.length_nil, hl]
    refine Ok.gd (by decide) (Ok.gd (by omega) (Ok.gd (by omega) (Ok.inl ⟨hi', ?_⟩)))
    rw [wsucc (by omega), ← List.replicate_succ']
  subst hr
  have hS0 : (List.replicate 20 Z).length = 20 := List.length_replicate
  have h10 : m10 ((16 : Int), ((15 : Int), ((1 : Int), ()))) = some (1, ()) := (m10_ok 16 (by omega) 15 1).trans rfl
  rw [h10]
  simp only [Option.bind_some]
  refine Ok.ncond (fun h => (h (by simp)).elim) (fun _ => ?_)
  rw [m137_D _ _ _ hS0]
  simp only [Option.bind_some]
  have hw : IntKind.wrap .i64 ((20 : Int) - 16) = 4 := rfl
  rw [hw]
  refine Ok.cond (fun h => absurd h (by decide)) (fun _ => ?_)
  have h36 : m36 (((0 : Int), (1 : Int)), ()) = some (supF 0 1, (0, ())) := by
    rw [m36_ok, if_pos ⟨by decide, by decide, by decide, by decide⟩]; rfl
  rw [h36]
  simp only [Option.bind_some]
  refine Ok.ncond (fun h => (h (by simp)).elim) (fun _ => ?_)
  have hsl : (supF 0 1).length = 256 := by rw [supF, sealed_len, sup_len]
  have hsb : Bytes (supF 0 1) := sealed_bytes (sup_bytes 0 1)
  rw [m138_D _ hS0 _ hsl]
  simp only [Option.bind_some]
  refine Ok.ncond (fun h => (h (by simp)).elim) (fun _ => ?_)
  have hS1 : ((List.replicate 20 Z).set 2 (supF 0 1)).length = 20 := by rw [List.length_set, hS0]
  have hSb : ∀ b ∈ (List.replicate 20 Z).set 2 (supF 0 1), Bytes b ∧ b.length = 256 := by
    intro b hb
    rcases List.mem_or_eq_of_mem_set hb with h | h
    · rw [List.eq_of_mem_replicate h]; exact ⟨Z_bytes, List.length_replicate⟩
    · rw [h]; exact ⟨hsb, hsl⟩
  have hS2 : ((List.replicate 20 Z).set 2 (supF 0 1)).getD 2 [] = supF 0 1 := by
    rw [List.getD_eq_getElem?_getD, List.getElem?_set, if_pos rfl, if_pos (by rw [hS0]; decide)]; rfl
  generalize (List.replicate 20 Z).set 2 (supF 0 1) = S at *
  rw [m134_D _ _ _ hS1]
  simp only [Option.bind_some]
  rw [m137_D _ _ _ hS1]
  simp only [Option.bind_some]
  rw [hw]
  refine Ok.cond (fun h => absurd h (by decide)) (fun _ => ?_)
  refine Ok.bind (S := fun r => r = .inl (rd S 16, D S 1 [(2, supF 0 1)])) ?_ (fun r hr => ?_)
  · refine Ok.loop 16 (fun i x => x = (rd S i, ((i : Int), D S 1 [(2, supF 0 1)]))) rfl ?_
    rintro i x hi rfl
    refine Ok.cond (fun hc => ?_) (fun hc => ?_)
    rotate_left
    · obtain rfl : i = 16 := by simp only at hc; omega
      exact Ok.inr rfl
    have hi' : i < 16 := by simp only at hc; omega
    have hwi : IntKind.wrap .i64 ((2 : Int) + (i : Int)) = ((2 + i : Nat) : Int) := by rw [wrap64 (by omega) (by omega)]; push_cast; rfl
    dsimp only
    rw [hwi, m135_D _ _ _ hS1 (fun b hb => (hSb b hb).2) (2 + i) (by omega)]
    simp only [Option.bind_some]
    refine Ok.ncond (fun h => (h (by simp)).elim) (fun _ => ?_)
    have hl := rd_len S i
    simp only [List.length_cons, List.length_nil, hl]
    refine Ok.gd (by omega) (Ok.gd (by omega) (Ok.inl ⟨hi', ?_⟩))
    rw [wsucc (by omega), rd_succ]
  subst hr
  have h7 := m7_live (rd S 16) (rd_len S 16) (fun b hb => by
    unfold rd at hb
    obtain ⟨j, hj, rfl⟩ := List.mem_map.1 hb
    have hj := List.mem_range.1 hj
    exact hSb _ (getD_mem (by omega))) hS2
  refine Ok.elim (fun y hy => ?_) (fun y hy => by simp at hy)
  simp only [Sum.inl.injEq] at hy
  subst hy
  refine Ok.ncond (fun h => (h (by simp)).elim) (fun _ => Ok.ncond (fun h => (h (by show ((List.length (rd S 16) : Nat) : Int) = 16; rw [rd_len]; rfl)).elim) (fun _ => ?_))
  dsimp only
  rw [h7]
  exact Ok.some rfl
end Go.Proofs.Ytjleeabhpfmhaaa
end

section
namespace Go.Proofs.Ytjleeabhpfmhaaa
open Go Go.Proofs.AM

theorem byte_wf (y : Int) (hy : (Lit.int .u8 y).wf = true) : 0 ≤ y ∧ y < 256 := by
  simp only [Lit.wf, IntKind.min, IntKind.max, IntKind.signed, IntKind.bits, Bool.and_eq_true, decide_eq_true_eq, if_true, Bool.false_eq_true, if_false] at hy
  omega

theorem ReplayScans_pure : ∀ x : AM.PDen [(false, (.sl (.sl (.int .u8)))), (false, (.int .i64)), (false, (.int .i64))], AM.PWf _ x → AM.PSz _ x → m3 x = some (true, ()) := by
  rintro ⟨region, s, k, ⟨⟩⟩ ⟨hw, _, _, _⟩ hz
  have hw1 : List.length region ≤ maxLen ∧ ∀ b ∈ (show List (List Int) from region), (K.sl (.int .u8)).wf b := hw
  have hz1 : List.length region * 24 ≤ 140737488351232 ∧ ∀ b ∈ (show List (List Int) from region), (K.sl (.int .u8)).sz b := hz.1
  have hbb : ∀ b ∈ (show List (List Int) from region), Bytes b ∧ b.length ≤ 140737488355328 := by
    intro b hb
    have h : List.length b ≤ maxLen ∧ ∀ y ∈ b, (Lit.int .u8 y).wf = true := hw1.2 b hb
    have h2 : List.length b * 1 ≤ 140737488351232 := (hz1.2 b hb).1
    exact ⟨fun y hy => byte_wf y (h.2 y hy), by omega⟩
  have hl : List.length region ≤ 140737488355328 := by have := hz1.1; omega
  apply ok_eq
  unfold m3
  rw [m6_ok]
  simp only [Option.bind_some]
  refine Ok.condb (fun h => absurd h (by decide)) (fun _ => Ok.cond (fun _ => Ok.some rfl) (fun h80 => ?_))
  have h80' : List.length region ≤ 80 := by omega
  refine Ok.bind (m7_ok region hl hbb) fun r hr => ?_
  obtain ⟨rfl, h1, h2⟩ := hr
  rw [m8_ok region hl hbb]
  simp only [Option.bind_some]
  rw [m9_self _ (by omega) h2]
  simp only [Option.bind_some, cond_true]
  refine Ok.cond (fun _ => ?_) (fun h => (h (by simp)).elim)
  rw [m10_ok _ (by omega), m11_ok _ (by omega)]
  simp only [Option.bind_some, decide_true]
  exact Ok.some rfl
end Go.Proofs.Ytjleeabhpfmhaaa
end
