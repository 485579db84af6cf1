/- The steps, and that each is the machine's. -/
import Derived.Test.YtefekolpfklhdaaAmA8
set_option maxRecDepth 2000
set_option linter.unusedVariables false
set_option linter.unusedSimpArgs false
namespace Go.Proofs.AM
open Go Go.RowKit

def undefTV : TV := .tup []
theorem undefTV_R {w : World} {N Nf : Nat → Prop} {β : List Bl} : undefTV.R w N Nf β undef := ⟨[], rfl, trivial⟩


section
variable {R : Type}

def astore (P : Program) (s : AS) (t : TypeId) (dst : AV) (v : TV) (k : AS → Option R) : Option R :=
  match P.info? t with
  | none => none
  | some i =>
    if v.solid = true ∧ v.cells.length = i.size ∧ v.cells.all AV.isOne = true then
      match dst with
      | .ptr l off => match hat s.heap l with
        | .box T cs => if off + i.size ≤ cs.length then k (s.upd l (.box T (splice cs off v.cells))) else none
        | _ => none
      | .vp l j off => match hat s.heap l with
        | .vec T q xs fr => if off + i.size ≤ q.size then
            gd (j < xs.length) (match K.of s.heap false q (splice (K.cells fr q (xs.getD j q.dflt)) off v.cells) with
              | some (y, f) => k (s.upd l (.vec T q (xs.set j y) (fr && f)))
              | none => none) else none
        | _ => none
      | _ => none
    else none

/-- A slice that is appended to: its elements, and the object that goes. -/
def aowned (h : Heap) (e : TypeId) (q : K) : AV → Option (List q.den × Bool × Option Nat)
  | .nilsl => some ([], true, none)
  | .vf l => match hat h l with
    | .vec T q' xs fr => if T = e then (if e : q' = q then some (e ▸ xs, fr, some l) else none) else none
    | _ => none
  | .vw l off len => match hat h l with
    | .vec T q' xs fr => if T = e then (if e : q' = q then (if off + len = xs.length then some (e ▸ (xs.drop off), fr, some l) else none) else none) else none
    | _ => none
  | _ => none

/-- The same, the view's end not asked. -/
def aowned0 (h : Heap) (e : TypeId) (q : K) : AV → Option (List q.den × Bool × Option Nat)
  | .nilsl => some ([], true, none)
  | .vf l => match hat h l with
    | .vec T q' xs fr => if T = e then (if e : q' = q then some (e ▸ xs, fr, some l) else none) else none
    | _ => none
  | .vw l off _ => match hat h l with
    | .vec T q' xs fr => if T = e then (if e : q' = q then some (e ▸ (xs.drop off), fr, some l) else none) else none
    | _ => none
  | _ => none

/-- A view that is appended to reaches to the row's end. -/
def avwOk (h : Heap) (x : AV) (k : Option R) : Option R := match x with
  | .vw l off len => match hat h l with
    | .vec _ _ xs _ => gd (off + len = xs.length) k
    | _ => none
  | _ => k

theorem avwOk_some {h : Heap} {e : TypeId} {q : K} {x : AV} {y : List q.den × Bool × Option Nat} {k : Option R} {r : R} (hk : avwOk h x k = some r) (hy : aowned0 h e q x = some y) :
    aowned h e q x = some y ∧ k = some r ∧ ∀ (R' : Type) (k' : Option R'), avwOk h x k' = k' := by
  cases x with
  | vw l off len =>
    simp only [avwOk] at hk ⊢
    simp only [aowned0, aowned] at hy ⊢
    split at hk
    · rename_i T q' xs fr hl
      obtain ⟨g, hk⟩ := gd_some hk
      simp only [hl, if_pos g] at hy ⊢
      exact ⟨hy, hk, fun _ _ => if_pos g⟩
    · simp at hk
  | nilsl => exact ⟨hy, hk, fun _ _ => rfl⟩
  | vf l => exact ⟨hy, hk, fun _ _ => rfl⟩
  | _ => simp [aowned0] at hy

def AS.kill (s : AS) : Option Nat → AS
  | none => s
  | some l => s.upd l .dead

def aappendTo (P : Program) (s : AS) (d : Option Nat) (e : TypeId) (q : K) (ys : List q.den) (fr2 : Bool) (x : AV) (k : AS → Option R) : Option R :=
  match aowned0 s.heap e q x, P.info? e, azero P e with
  | some (xs, fr1, l), some i, some z => if i.size = q.size ∧ z.length = q.size then
      avwOk s.heap x (gd ((xs.length + ys.length) * i.bytes ≤ 140737488355328) (gd (xs.length + ys.length ≤ 140737488355328)
        (k (((s.kill l).push (.vec e q (xs ++ ys) (fr1 && fr2))).put d (.one (.vf s.heap.length)))))) else none
  | _, _, _ => none

def aappend (P : Program) (s : AS) (o : Oper) (c : Call) (k : AS → Option R) : Option R :=
  match c.args.toList, c.argTypes.toList with
  | [x, y], [t, t'] => if t = t' then match aelem P t, s.ev x, s.ev y with
    | some e, .one a, .one b => match b.bor s.heap with
      | .dat (.sl q) ys fr2 => aappendTo P s o.dst e q ys (fr2 || q.flat) a k
      | .nilsl => match kindOf P 30 e with
        | some q => aappendTo P s o.dst e q [] true a k
        | none => none
      | _ => none
    | _, _, _ => none
    else none
  | _, _ => none

def acopy (P : Program) (s : AS) (o : Oper) (c : Call) (k : AS → Option R) : Option R :=
  match c.args.toList, c.argTypes.toList with
  | [x, y], t :: _ => match aelem P t, s.ev x, s.ev y with
    | some e, .one a, .one b => match b.bor s.heap with
      | .dat (.sl q) ys fr2 => match a with
        | .vf l => match hat s.heap l with
          | .vec T q' xs fr => if e' : q' = q then szOk P e q.size (k ((s.upd l (.vec T q ((ys.take xs.length) ++ (e' ▸ xs.drop ys.length)) (fr && (fr2 || q.flat)))).put o.dst (.one (.dat (.int .i64) (min ys.length xs.length : Nat) true)))) else none
          | _ => none
        | .vw l off len => match hat s.heap l with
          | .vec T q' xs fr => if e' : q' = q then szOk P e q.size (k ((s.upd l (.vec T q ((e' ▸ xs.take off) ++ (ys.take len) ++ (e' ▸ xs.drop (off + min ys.length len))) (fr && (fr2 || q.flat)))).put o.dst (.one (.dat (.int .i64) (min ys.length len : Nat) true)))) else none
          | _ => none
        | _ => none
      | _ => none
    | _, _, _ => none
  | _, _ => none

/-- A new row of cells: as data, or as something of one's own. -/
def AS.made (s : AS) (im : Bool) (d : Option Nat) (e : TypeId) (q : K) (xs : List q.den) (fr : Bool) : AS := match im with
  | true => s.put d (.one (.dat (.sl q) xs fr))
  | false => (s.push (.vec e q xs fr)).put d (.one (.vf s.heap.length))

def amake (P : Program) (s : AS) (im : Bool) (o : Oper) (t : TypeId) (x y : Operand) (k : AS → Option R) : Option R :=
  match aelem P t, s.ev x, s.ev y with
  | some e, .one (.dat (.int .i64) n _), .one (.dat (.int .i64) m _) => match P.info? e, kindOf P 30 e, azero P e with
    | some i, some q, some z => match K.of s.heap false q z with
      | some (zd, true) => if i.size = q.size ∧ 0 < i.size ∧ 0 < i.bytes then gd (0 ≤ n) (gd (n ≤ m) (gd (m * i.bytes ≤ 140737488355328) (k (s.made im o.dst e q (List.replicate n.toNat zd) true)))) else none
      | _ => none
    | _, _, _ => none
  | _, _, _ => none

/-- Elements of a slice that is written out. -/
def aelems (h : Heap) (q : K) : Nat → List (Nat × TV) → Option (List q.den × Bool)
  | _, [] => some ([], true)
  | n, (i, t) :: r => if i = n ∧ t.solid = true ∧ t.cells.length = q.size then match K.of h false q t.cells, aelems h q (n + 1) r with
    | some (x, f), some (xs, g) => some (x :: xs, f && g)
    | _, _ => none
    else none

def abuildSlice (P : Program) (s : AS) (im : Bool) (o : Oper) (t : TypeId) (n : Nat) (parts : List (Nat × Operand)) (k : AS → Option R) : Option R :=
  match aelem P t with
  | none => none
  | some e => match P.info? e, kindOf P 30 e, azero P e with
    | some i, some q, some z => if i.size = q.size ∧ z.length = q.size ∧ parts.length = n ∧ n * i.size ≤ 16777216 then
        match aelems s.heap q 0 (parts.map fun p => (p.1, s.ev p.2)) with
        | some (xs, f) => k (s.made im o.dst e q xs f)
        | none => none
      else none
    | _, _, _ => none

/-! ### maps -/
def amakeMap (P : Program) (s : AS) (o : Oper) (t : TypeId) (k : AS → Option R) : Option R := match P.underlying t with
  | some (.map kt vt) => match kindOf P 30 kt, kindOf P 30 vt with
    | some kk, some vk => k ((s.push (.map (isAggT P kt, kk) (isAggT P vt, vk) [] true)).put o.dst (.one (.mp s.heap.length)))
    | _, _ => none
  | _ => none

def amapUpdate (P : Program) (s : AS) (t : TypeId) (x i v : TV) (k : AS → Option R) : Option R := match P.underlying t, x with
  | some (.map kt _), .one (.mp l) => match hat s.heap l with
    | .map ki vi es fr => if keyOk P kt ki = true then match decT s.heap ki i, decT s.heap vi v with
      | some (xk, _), some (y, f) => k (s.upd l (.map ki vi (mset ki es xk y) (fr && (f || vi.2.flat))))
      | _, _ => none
      else none
    | _ => none
  | _, _ => none

def adelete (P : Program) (s : AS) (o : Oper) (c : Call) (k : AS → Option R) : Option R := match c.args.toList, c.argTypes.toList with
  | [m, i], t :: _ => match P.underlying t, s.ev m with
    | some (.map kt _), .one (.mp l) => match hat s.heap l with
      | .map ki vi es fr => if keyOk P kt ki = true then match decT s.heap ki (s.ev i) with
        | some (xk, _) => k ((s.upd l (.map ki vi (mdel ki es xk) fr)).put o.dst undefTV)
        | none => none
        else none
      | _ => none
    | _, _ => none
  | _, _ => none

def arange (P : Program) (s : AS) (o : Oper) (t : TypeId) (x : TV) (k : AS → Option R) : Option R := match P.underlying t, x with
  | some (.map _ _), .one (.mp m) => match hat s.heap m with
    | .map ki vi es fr => k (({ s with heap := s.heap.set m (true, .dead) ++ [(true, .walk m ki vi es es none fr)] } : AS).put o.dst (.one (.wk s.heap.length)))
    | _ => none
  | _, _ => none

def aentry (h : Heap) (x : TV) (k : TV → Option R) : Option R := match x with
  | .one (.wk l) => match hat h l with
    | .walk _ ki vi _ _ (some p) fr => k (.tup [(ki.1, ki.2.cells fr p.1), (vi.1, vi.2.cells fr p.2)])
    | _ => none
  | _ => none

def astep (P : Program) (Γ : Env) (s : AS) (o : Oper) (k : AS → Option R) : Option R :=
  match o.op with
  | .alloc t => match azero P t with
    | some cs => k ((s.push (.box t cs)).put o.dst (.one (.ptr s.heap.length 0)))
    | none => none
  | .box t x => if (s.ev x).solid = true then k ((s.push (.box t (s.ev x).cells)).put o.dst (.one (.ptr s.heap.length 0))) else none
  | .makeSlice t x y => amake P s (Γ.im o) o t x y k
  | .buildSlice t n parts => abuildSlice P s (Γ.im o) o t n parts.toList k
  | .store t x y => match s.ev x with
    | .one d => astore P s t d (s.ev y) (fun s' => k (s'.put o.dst (.one .junk)))
    | _ => none
  | .lookup t x i ok => alookup P s.heap t (s.ev x) (s.ev i) ok (fun tv => k (s.put o.dst tv))
  | .entry x => aentry s.heap (s.ev x) (fun tv => k (s.put o.dst tv))
  | .range t x => arange P s o t (s.ev x) k
  | .makeMap t none => amakeMap P s o t k
  | .mapUpdate t m i x => amapUpdate P s t (s.ev m) (s.ev i) (s.ev x) (fun s' => k (s'.put o.dst (.one .junk)))
  | .call c => match c.callee with
    | .builtin .append => aappend P s o c k
    | .builtin .copy => acopy P s o c k
    | .builtin .delete => adelete P s o c k
    | .builtin _ => aval P s o (fun tv => k (s.put o.dst tv))
    | .value f => match s.ev f with
      | .one (.fn fid caps) => match Γ.hd fid with
        | none => acall Γ s fid (c.args.toList.map s.ev ++ caps.map (fun l => .one (.ptr l 0))) (fun tv => k (s.put o.dst tv))
        | some d => match f with
          | .func _ => acallH d s (c.args.toList.map s.ev ++ caps.map (fun l => .one (.ptr l 0))) (fun s' tv => k (s'.put o.dst tv))
          | _ => none
      | _ => none
    | _ => none
  | _ => aval P s o (fun tv => k (s.put o.dst tv))
end

def After (C : Cx) (s : AS) (β : List Bl) (d : Nat → Prop) {R : Type} (k : AS → Option R) (r : R) (a' : Act) (w' : World) : Prop :=
  ∃ s' β', k s' = some r ∧ Rel C s' β' a' w' ∧ Ext d s s' β β'

section
variable {P : Program} {C : Cx} {s : AS} {β : List Bl} {a : Act} {w : World} {R : Type} {k : AS → Option R} {r : R} {F : Fence} {n : Nat} {Q : Exit → Act → World → Prop} {o : Oper}

theorem value_step (hF : FW F) (h : Rel C s β a w) (hd : ∀ c, o.op ≠ .defer c) (e : aval P s o (fun tv => k (s.put o.dst tv)) = some r) :
    o.wpIn F n P a w (After C s β (fun i => o.dst = some i) k r) Q := by
  obtain ⟨tv, v, hk, hr, hv⟩ := aval_sound h e
  exact wpIn_value hF hd hr ⟨_, _, hk, h.put _ _ _ hv, Ext.put _ _ _ _⟩

/-- A new box. -/
theorem box_step (hF : FW F) (h : Rel C s β a w) (hd : ∀ c, o.op ≠ .defer c) {t : TypeId} {cs : List AV} {vs : List Value} (hc : All2 (AV.R w (C.N s.heap β w) (C.fresh s.heap β w) β) cs vs)
    (hr : (execOp a.eval o).run P w = .ok (.value (.pointer (some ⟨w.heap.size, 0, none⟩))) (w.alloc (.cells vs.toArray t)))
    (e : k ((s.push (.box t cs)).put o.dst (.one (.ptr s.heap.length 0))) = some r) : o.wpIn F n P a w (After C s β (fun i => o.dst = some i) k r) Q := by
  have hnew : (w.alloc (.cells vs.toArray t)).heap[w.heap.size]? = some (.cells vs.toArray t) := heap_alloc_new w _
  obtain ⟨h2, mv⟩ := h.push (Grew.alloc w (.cells vs.toArray t)) (.box t cs) ⟨w.heap.size, 0, 0, 0, 0, true, none⟩ (fun b hb => by simp only [AObj.occ, List.mem_singleton] at hb; subst hb; simp)
    (fun mv _ _ => ⟨vs, hnew, rfl, hc.mono mv⟩)
  refine wpIn_value hF hd hr ⟨_, _, e, h2.put _ _ _ ?_, (Ext.push _ s β _ _).trans (Ext.put _ _ _ _)⟩
  exact ⟨⟨w.heap.size, 0, 0, 0, 0, true, none⟩, by rw [← h.bsize]; simp, by simp [Bl.addr]⟩

theorem alloc_step (hF : FW F) (h : Rel C s β a w) {t : TypeId} (ho : o.op = .alloc t) {cs : List AV} (hz : azero P t = some cs)
    (e : k ((s.push (.box t cs)).put o.dst (.one (.ptr s.heap.length 0))) = some r) : o.wpIn F n P a w (After C s β (fun i => o.dst = some i) k r) Q := by
  unfold azero at hz
  split at hz
  · rename_i i hi
    split at hz
    · rename_i z hzv
      simp only [Option.some.injEq] at hz; subst hz
      have hzc : All2 (AV.R w (C.N s.heap β w) (C.fresh s.heap β w) β) (constTV z).cells z.cells.toList := by
        unfold constTV
        split
        · rename_i cs; simpa [TV.cells, Value.cells] using All2_const cs.toList
        · rename_i hne
          have hvc : z.cells = #[z] := by
            unfold Value.cells
            split
            · exact absurd rfl (hne _)
            · rfl
          rw [hvc]; exact ⟨constAV_R _, trivial⟩
      refine box_step hF h (by simp [ho]) hzc ?_ e
      simp [execOp, ho, Instr.alloc, zeroValue, typeInfo, hi, hzv, newVar, newRow]
    · simp at hz
  · simp at hz

theorem box_op_step (hF : FW F) (h : Rel C s β a w) {t : TypeId} {x : Operand} (ho : o.op = .box t x) (hs : (s.ev x).solid = true)
    (e : k ((s.push (.box t (s.ev x).cells)).put o.dst (.one (.ptr s.heap.length 0))) = some r) : o.wpIn F n P a w (After C s β (fun i => o.dst = some i) k r) Q := by
  refine box_step hF h (by simp [ho]) (TV.R_cells (h.ev x) hs) ?_ e
  simp [execOp, ho, Instr.box, newVar, newRow]

theorem call_args (h : Rel C s β a w) (l : List Operand) : All2 (TV.R w (C.N s.heap β w) (C.fresh s.heap β w) β) (l.map s.ev) (l.map a.eval) := by
  induction l with
  | nil => trivial
  | cons x l ih => exact ⟨h.ev x, ih⟩

theorem call_caps {N Nf : Nat → Prop} {caps : List Nat} {bs : List Value} (hb : All2 (fun l b => ∃ r, β[l]? = some r ∧ b = .pointer (r.addr 0)) caps bs) : All2 (TV.R w N Nf β) (caps.map (fun l => TV.one (.ptr l 0))) bs := by
  induction caps generalizing bs with
  | nil => match bs, hb with
    | [], _ => trivial
  | cons l caps ih => match bs, hb with
    | b :: bs, hb => exact ⟨hb.1, ih hb.2⟩

theorem enter_run {c : Call} (ho : o.op = .call c) {f : Operand} (hc : c.callee = .value f) {fid : FuncId} {bs : List Value} (hv : a.eval f = .func (.func fid) #[] bs.toArray)
    (hcall : ∀ args w, (callFunc fid args).run P w = .ok (.enter fid args) w) : (execOp a.eval o).run P w = .ok (.enter fid (c.args.toList.map a.eval ++ bs).toArray) w := by
  simp only [execOp, ho, resolve, hc, hv, Deferred.ofValue, Sem.run_bind, Sem.run_pure, Result.andThen_ok, invoke]
  rw [hcall]
  congr 2
  apply Array.ext'; simp

theorem call_step (hF : FW F) (h : Rel C s β a w) {Γ : Env} (hΓ : Γ.Sound P) {c : Call} (ho : o.op = .call c) {f : Operand} (hc : c.callee = .value f) {fid : FuncId} {caps : List Nat} (hf : s.ev f = .one (.fn fid caps))
    (e : acall Γ s fid (c.args.toList.map s.ev ++ caps.map (fun l => .one (.ptr l 0))) (fun tv => k (s.put o.dst tv)) = some r) : o.wpIn F n P a w (After C s β (fun i => o.dst = some i) k r) Q := by
  obtain ⟨bs, hv, hb⟩ := h.ev1 hf
  obtain ⟨hcall, hs⟩ := acall_sound h hΓ ((call_args h c.args.toList).app (call_caps hb)) e
  refine wpIn_enter hF (by simp [ho]) (f := fid) (args := (c.args.toList.map a.eval ++ bs).toArray) (w' := w) (enter_run ho hc hv hcall) hs ?_
  rintro e' w'' ⟨v, tv, rfl, hk, hg, hr⟩
  obtain ⟨h3, mv⟩ := h.grew hg
  exact ⟨v, rfl, _, _, hk, h3.put _ _ _ hr, Ext.put _ _ _ _⟩

theorem callH_step (hF : FW F) (h : Rel C s β a w) {c : Call} (ho : o.op = .call c) {f : Operand} (hc : c.callee = .value f) {fid : FuncId} {caps : List Nat} (hf : s.ev f = .one (.fn fid caps)) {d : HD} (hd : d.Sound P fid)
    (e : acallH d s (c.args.toList.map s.ev ++ caps.map (fun l => .one (.ptr l 0))) (fun s' tv => k (s'.put o.dst tv)) = some r) : o.wpIn F n P a w (After C s β (fun i => o.dst = some i) k r) Q := by
  obtain ⟨bs, hv, hb⟩ := h.ev1 hf
  unfold acallH at e
  split at e
  · simp at e
  rename_i x hx
  obtain ⟨y, hy, e⟩ := Option.bind_eq_some_iff.1 e
  refine wpIn_enter hF (by simp [ho]) (f := fid) (args := (c.args.toList.map a.eval ++ bs).toArray) (w' := w) (enter_run ho hc hv hd.1) (hd.2 x y hy C s β a w _ _ h ((call_args h c.args.toList).app (call_caps hb)) hx) ?_
  rintro e' w'' ⟨v, β', rfl, hr, ht, hg⟩
  refine ⟨v, rfl, _, _, e, hr.put _ _ _ ht, ?_⟩
  have hE : Ext (fun i => o.dst = some i) s { s with heap := (d.out s.heap (c.args.toList.map s.ev ++ caps.map (fun l => .one (.ptr l 0))) x y).1 } β β' :=
    ⟨hg.bx, fun _ _ => rfl, rfl, hg.hl, hg.hp, ⟨[], rfl⟩, hg.hm⟩
  exact hE.trans (Ext.put _ _ _ _)
end
end Go.Proofs.AM
