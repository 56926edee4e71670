/- Rules, operation by operation. -/
import Derived.Test.YtgdioloappbjkaaGreatWsWalk
set_option linter.unusedSectionVars false
set_option linter.unusedVariables false
set_option linter.unusedSimpArgs false
namespace Go.Ws

/-! ### Lists of cells, by unification -/

class NthL (l : List Value) (i : Nat) (v : outParam Value) : Prop where
  nth : l[i]? = some v
instance NthL.zero {x : Value} {l : List Value} : NthL (x :: l) 0 x := ⟨rfl⟩
instance NthL.succ {x v : Value} {l : List Value} {i : Nat} [h : NthL l i v] : NthL (x :: l) (i + 1) v := ⟨by simpa using h.nth⟩

class TakeL (l : List Value) (n : Nat) (m : outParam (List Value)) : Prop where
  take : l.take n = m ∧ m.length = n
instance TakeL.zero {l : List Value} : TakeL l 0 [] := ⟨by simp⟩
instance TakeL.succ {x : Value} {l m : List Value} {n : Nat} [h : TakeL l n m] : TakeL (x :: l) (n + 1) (x :: m) := ⟨by simp [h.take]⟩

class SubL (l : List Value) (o n : Nat) (m : outParam (List Value)) : Prop where
  sub : (l.drop o).take n = m ∧ m.length = n
instance SubL.zero {l m : List Value} {n : Nat} [h : TakeL l n m] : SubL l 0 n m := ⟨by simpa using h.take⟩
instance SubL.succ {x : Value} {l m : List Value} {o n : Nat} [h : SubL l o n m] : SubL (x :: l) (o + 1) n m := ⟨by simpa using h.sub⟩

class PutL (l vs : List Value) (m : outParam (List Value)) : Prop where
  put : m = vs ++ l.drop vs.length ∧ vs.length ≤ l.length
instance PutL.nil {l : List Value} : PutL l [] l := ⟨by simp⟩
instance PutL.cons {x v : Value} {l vs m : List Value} [h : PutL l vs m] : PutL (x :: l) (v :: vs) (v :: m) := ⟨by simp [h.put.1, h.put.2]⟩

class SpliceL (l : List Value) (o : Nat) (vs : List Value) (m : outParam (List Value)) : Prop where
  splice : m = l.take o ++ vs ++ l.drop (o + vs.length) ∧ o + vs.length ≤ l.length
instance SpliceL.zero {l vs m : List Value} [h : PutL l vs m] : SpliceL l 0 vs m := ⟨by simpa using h.put⟩
instance SpliceL.succ {x : Value} {l vs m : List Value} {o : Nat} [h : SpliceL l o vs m] : SpliceL (x :: l) (o + 1) vs (x :: m) := ⟨by
  have := h.splice
  constructor
  · rw [this.1, show o + 1 + vs.length = (o + vs.length) + 1 from by omega]; simp
  · simp; omega⟩

/-! ### Blocks among what is known -/

class BlkAt (H : List HP) (b : Nat) (T : outParam TypeId) (cs : outParam (List Value)) : Prop where
  hole : ∀ cs', ∃ H2, Hole H (blk b T cs) (blk b T cs') H2
instance (priority := 2000) BlkAt.here {H : List HP} {b : Nat} {T : TypeId} {cs : List Value} : BlkAt (blk b T cs :: H) b T cs := ⟨fun cs' => ⟨blk b T cs' :: H, .here⟩⟩
instance (priority := 500) BlkAt.there {H : List HP} {c : HP} {b : Nat} {T : TypeId} {cs : List Value} [h : BlkAt H b T cs] : BlkAt (c :: H) b T cs :=
  ⟨fun cs' => let ⟨H2, t⟩ := h.hole cs'; ⟨c :: H2, t.there⟩⟩

theorem BlkAt.heap {H : List HP} {b : Nat} {T : TypeId} {cs : List Value} (h : BlkAt H b T cs) {w : World} (s : Sat w (stars H)) : w.heap[b]? = some (.cells cs.toArray T (0, 0)) :=
  let ⟨_, t⟩ := h.hole cs; let ⟨_, a, _⟩ := t; own_at (s.imp a)

class BlkSet (H : List HP) (b : Nat) (T : outParam TypeId) (cs : outParam (List Value)) (cs' : List Value) (H2 : outParam (List HP)) : Prop where
  hole : Hole H (blk b T cs) (blk b T cs') H2
instance (priority := 2000) BlkSet.here {H : List HP} {b : Nat} {T : TypeId} {cs cs' : List Value} : BlkSet (blk b T cs :: H) b T cs cs' (blk b T cs' :: H) := ⟨.here⟩
instance (priority := 500) BlkSet.there {H H2 : List HP} {c : HP} {b : Nat} {T : TypeId} {cs cs' : List Value} [h : BlkSet H b T cs cs' H2] : BlkSet (c :: H) b T cs cs' (c :: H2) := ⟨h.hole.there⟩

/-! ### What the program's types are -/

class NA (P : Program) (T : TypeId) : Prop where
  no : ∀ w, (isAgg T).run P w = .ok false w
class AG (P : Program) (T : TypeId) : Prop where
  yes : ∀ w, (isAgg T).run P w = .ok true w
class SZ (P : Program) (T : TypeId) (n : outParam Nat) : Prop where
  size : ∀ w, (sizeOf T).run P w = .ok n w
class ZV (P : Program) (T : TypeId) (cs : outParam (List Value)) : Prop where
  zero : ∀ w, ∃ z, (zeroValue T).run P w = .ok z w ∧ z.cells = cs.toArray
class FA (P : Program) (T : TypeId) (i : Nat) (off : outParam Nat) : Prop where
  field : ∀ w b o, (Instr.fieldAt T (ptr b o) i).run P w = .ok (ptr b (o + off)) w
/-- A field of a struct by value: one of one cell. -/
class FV (P : Program) (T : TypeId) (i : Nat) (off : outParam Nat) : Prop where
  field : ∀ w (cs : Array Value), (Instr.field T (.agg cs) i).run P w = match cs[off]? with | some v => .ok v w | none => .halt (.stuck "part: no such cell") w
/-- One that is an aggregate. -/
class FG (P : Program) (T : TypeId) (i : Nat) (off n : outParam Nat) : Prop where
  field : ∀ w (cs : Array Value), (Instr.field T (.agg cs) i).run P w = .ok (.agg (cs.extract off (off + n))) w
class UT (P : Program) (T : TypeId) (d : outParam TypeDesc) : Prop where
  under : P.underlying T = some d

section
variable {P : Program} {ρ : Option Nat} {n : Nat} {ds : List Deferred} {rs : List (Nat × Value)} {H H' : List HP} {Q : Exit → Act → World → Prop}
variable {ops : Array Oper} {rest : List Oper} {ty : TypeId} {ps : String} {af : Array Edge} {d : Nat} {x y : Operand} {T T' : TypeId} {b o i off k : Nat} {cs cs' vs : List Value} {v : Value}

theorem V_mv (hx : evalO rs x = some v) : VOp P n ds rs H Tr (.move x) v := .pure fun o ho a w r => by simp [execOp, ho, r.eval hx]
theorem V_as (hx : evalO rs x = some v) : VOp P n ds rs H Tr (.assign x) v := .pure fun o ho a w r => by simp [execOp, ho, r.eval hx]

/-- These cells stand there. -/
def Cells (b o : Nat) (vs : List Value) : World → Prop := fun w => ∀ j, j < vs.length → w.cell? ⟨b, o + j, none⟩ = vs[j]?

theorem BlkAt.cells {H : List HP} (h : BlkAt H b T' cs) {w : World} (s : Sat w (stars H)) (hv : SubL cs o k vs) : Cells b o vs w := fun j hj => by
  rw [cell_of_heap (h.heap s), ← hv.sub.1, List.getElem?_take_of_lt (by have := hv.sub; omega), List.getElem?_drop]

theorem V_ld [NA P T] (hx : evalO rs x = some (ptr b o)) [hb : BlkAt H b T' cs] [hv : NthL cs o v] : VOp P n ds rs H (Cells b o [v]) (.load T x) v :=
  ⟨fun w s j hj => by
    have : j = 0 := by simpa using hj
    subst this
    rw [cell_of_heap (hb.heap s)]; exact hv.nth, fun o ho a w r h => by
    have h2 := h 0 (by simp)
    simp only [Nat.add_zero, List.getElem?_cons_zero] at h2
    simp [execOp, ho, r.eval hx, Instr.loadAt, Instr.sureAddr, loadVar, NA.no (P := P) (T := T), h2]⟩

theorem V_lda [AG P T] [hk : SZ P T k] (hx : evalO rs x = some (ptr b o)) [hb : BlkAt H b T' cs] [hv : SubL cs o k vs] : VOp P n ds rs H (Cells b o vs) (.load T x) (.agg vs.toArray) :=
  ⟨fun w s => hb.cells s hv, fun o ho a w r h => by
    have h2 : (loadCells ⟨b, _, none⟩ k).run P w = .ok vs.toArray w := run_loadCells (fun j hj => h j (by rw [hv.sub.2]; exact hj)) hv.sub.2
    simp [execOp, ho, r.eval hx, Instr.loadAt, Instr.sureAddr, loadVar, AG.yes (P := P) (T := T), hk.size, h2]⟩

theorem J_st [hk : SZ P T 1] (hx : evalO rs x = some (ptr b o)) (hy : evalO rs y = some v) (h1 : v.oneCell' = true) [hb : BlkAt H b T' cs] [hc : SpliceL cs o [v] cs'] [hs : BlkSet H b T' cs cs' H']
    (h : J n ds rs H' (wpListIn (Fc ρ) 0 P ops Q rest)) : J n ds rs H (wpListIn (Fc ρ) 0 P ops Q (⟨none, .store T x y, ty, ps, af, none⟩ :: rest)) :=
  J_skipw (fun a w r s => by
    have h2 := hb.heap s
    have e : v.cells = #[v] := by cases v <;> first | rfl | cases h1
    have h3 := run_storeCells (P := P) (b := b) (o := o) [v] 0 w cs h2 (by simpa using hc.splice.2) (by simp [h1])
    refine ⟨setB w b (.cells cs'.toArray T' (0, 0)), ?_, s.hole hs.hole fun R t => own_set t (setB_at h2)⟩
    simp only [Nat.add_zero, ← hc.splice.1] at h3
    simp [execOp, r.eval hx, r.eval hy, Instr.storeAt, Instr.sureAddr, storeVar, hk.size, e, h3]) h

theorem J_sta [hk : SZ P T k] (hx : evalO rs x = some (ptr b o)) (hy : evalO rs y = some (.agg vs.toArray)) (hl : vs.length = k) (h1 : vs.all Value.oneCell' = true)
    [hb : BlkAt H b T' cs] [hc : SpliceL cs o vs cs'] [hs : BlkSet H b T' cs cs' H']
    (h : J n ds rs H' (wpListIn (Fc ρ) 0 P ops Q rest)) : J n ds rs H (wpListIn (Fc ρ) 0 P ops Q (⟨none, .store T x y, ty, ps, af, none⟩ :: rest)) :=
  J_skipw (fun a w r s => by
    have h2 := hb.heap s
    have h3 := run_storeCells (P := P) (b := b) (o := o) vs 0 w cs h2 (by simpa using hc.splice.2) h1
    refine ⟨setB w b (.cells cs'.toArray T' (0, 0)), ?_, s.hole hs.hole fun R t => own_set t (setB_at h2)⟩
    simp only [Nat.add_zero, ← hc.splice.1] at h3
    simp [execOp, r.eval hx, r.eval hy, Instr.storeAt, Instr.sureAddr, storeVar, Value.cells, hk.size, hl, h3]) h

theorem N_alloc [hz : ZV P T cs] : NOp P n ds rs (.alloc T) (.cells cs.toArray T (0, 0)) (fun b => ptr b 0) := fun o ho a w _ => by
  obtain ⟨z, h1, h2⟩ := hz.zero w
  simp [execOp, ho, Instr.alloc, h1, newVar, newRow, h2]

theorem N_box (hx : evalO rs x = some v) (h1 : v.oneCell' = true) : NOp P n ds rs (.box T x) (.cells [v].toArray T (0, 0)) (fun b => ptr b 0) := fun o ho a w r => by
  have e : v.cells = #[v] := by cases v <;> first | rfl | cases h1
  simp [execOp, ho, r.eval hx, Instr.box, newVar, newRow, e]

theorem N_boxa (hx : evalO rs x = some (.agg vs.toArray)) : NOp P n ds rs (.box T x) (.cells vs.toArray T (0, 0)) (fun b => ptr b 0) := fun o ho a w r => by
  simp [execOp, ho, r.eval hx, Instr.box, newVar, newRow, Value.cells]

theorem V_nilp {p : Addr} (hx : evalO rs x = some (.pointer (some p))) : VOp P n ds rs H Tr (.nilCheck x) (.pointer (some p)) := .pure fun o ho a w r => by simp [execOp, ho, r.eval hx]

theorem V_fa [hf : FA P T i off] (hx : evalO rs x = some (ptr b o)) (ho : o + off = k) : VOp P n ds rs H Tr (.fieldAddr T x i) (ptr b k) := .pure fun o ho a w r => by
  simp [execOp, ho, r.eval hx, hf.field]; omega

theorem V_fv [hf : FV P T i off] (hx : evalO rs x = some (.agg cs.toArray)) [hv : NthL cs off v] : VOp P n ds rs H Tr (.field T x i) v := .pure fun o ho a w r => by
  simp [execOp, ho, r.eval hx, hf.field, hv.nth]

theorem V_fg [hf : FG P T i off k] (hx : evalO rs x = some (.agg cs.toArray)) [hv : SubL cs off k vs] : VOp P n ds rs H Tr (.field T x i) (.agg vs.toArray) := .pure fun o ho a w r => by
  have : cs.toArray.extract off (off + k) = vs.toArray := by
    rw [← hv.sub.1, List.extract_toArray, List.extract_eq_take_drop, Nat.add_sub_cancel_left]
  simp [execOp, ho, r.eval hx, hf.field, this]

theorem V_ex {vs : List Value} (hx : evalO rs x = some (.tuple vs.toArray)) [hv : NthL vs i v] : VOp P n ds rs H Tr (.extract x i) v := .pure fun o ho a w r => by
  simp [execOp, ho, r.eval hx, Instr.extract, hv.nth]

theorem V_pick {c : Operand} {t : Bool} {v u : Value} (hc : evalO rs c = some (.bool t)) (hx : evalO rs x = some v) (hy : evalO rs y = some u) :
    VOp P n ds rs H Tr (.pick c x y) (bif t then v else u) := .pure fun o ho a w r => by
  cases t <;> simp [execOp, ho, r.eval hx, r.eval hy, r.eval hc, asBool]

theorem V_pickT {c : Operand} {v : Value} (hc : evalO rs c = some (.bool true)) (hx : evalO rs x = some v) : VOp P n ds rs H Tr (.pick c x y) v := .pure fun o ho a w r => by
  simp [execOp, ho, r.eval hx, r.eval hc, asBool]

theorem V_pickF {c : Operand} {v : Value} (hc : evalO rs c = some (.bool false)) (hy : evalO rs y = some v) : VOp P n ds rs H Tr (.pick c x y) v := .pure fun o ho a w r => by
  simp [execOp, ho, r.eval hy, r.eval hc, asBool]

/-! ### Numbers -/

theorem V_not {t : Bool} (hx : evalO rs x = some (.bool t)) : VOp P n ds rs H Tr (.unOp .not T x) (.bool (!t)) := .pure fun o ho a w r => by
  simp [execOp, ho, r.eval hx, Op.unary]

/-- What a comparison of integers comes to. -/
def cmpI : BinOp → Int → Int → Option Bool
  | .eql, a, b => some (a == b)
  | .neq, a, b => some (a != b)
  | .lss, a, b => some (decide (a < b))
  | .leq, a, b => some (decide (a ≤ b))
  | .gtr, a, b => some (decide (a > b))
  | .geq, a, b => some (decide (a ≥ b))
  | _, _, _ => none

theorem V_cmp {op : BinOp} {kd : IntKind} {p q : Int} {t : Bool} {yT : TypeId} (hx : evalO rs x = some (.int kd p)) (hy : evalO rs y = some (.int kd q)) (ht : cmpI op p q = some t) :
    VOp P n ds rs H Tr (.binOp op T x y yT) (.bool t) := .pure fun o ho a w r => by
  cases op <;> simp [cmpI] at ht <;> subst ht <;> simp [execOp, ho, r.eval hx, r.eval hy, eqGuard, binOp, Op.intCmp]

/-- What a sum, a difference, a product comes to. -/
def arI : BinOp → Int → Int → Option Int
  | .add, a, b => some (a + b)
  | .sub, a, b => some (a - b)
  | .mul, a, b => some (a * b)
  | _, _, _ => none

theorem wrap64_in {z : Int} (h : -9223372036854775808 ≤ z ∧ z ≤ 9223372036854775807) : IntKind.i64.wrap z = z := by
  have e1 : (2 : Int) ^ (64 : Nat) = 18446744073709551616 := by decide
  have e2 : (2 : Int) ^ (64 - 1 : Nat) = 9223372036854775808 := by decide
  simp only [IntKind.wrap, IntKind.bits, IntKind.signed, e1, e2, Bool.true_and, decide_eq_true_eq]
  split <;> omega

theorem V_ar {op : BinOp} {p q z : Int} {yT : TypeId} (hx : evalO rs x = some (.int .i64 p)) (hy : evalO rs y = some (.int .i64 q)) (hz : arI op p q = some z)
    (hr : -9223372036854775808 ≤ z ∧ z ≤ 9223372036854775807) : VOp P n ds rs H Tr (.binOp op T x y yT) (.int .i64 z) := .pure fun o ho a w r => by
  have := wrap64_in hr
  cases op <;> simp [arI] at hz <;> subst hz <;> simp [execOp, ho, r.eval hx, r.eval hy, eqGuard, binOp, Op.intArith, this]

theorem V_arw {op : BinOp} {kd : IntKind} {p q z : Int} {yT : TypeId} (hx : evalO rs x = some (.int kd p)) (hy : evalO rs y = some (.int kd q)) (hz : arI op p q = some z) :
    VOp P n ds rs H Tr (.binOp op T x y yT) (.int kd (kd.wrap z)) := .pure fun o ho a w r => by
  cases op <;> simp [arI] at hz <;> subst hz <;> simp [execOp, ho, r.eval hx, r.eval hy, eqGuard, binOp, Op.intArith]

theorem V_max {p q : Int} {kd : IntKind} {aT : Array TypeId} (hx : evalO rs x = some (.int kd p)) (hy : evalO rs y = some (.int kd q)) :
    VOp P n ds rs H Tr (.call ⟨.builtin .max, #[x, y], aT⟩) (.int kd (max p q)) := .pure fun o ho a w r => by
  simp [execOp, ho, resolve, invoke, builtin, Builtin.max_, Builtin.max2, r.eval hx, r.eval hy]
  omega

theorem V_min {p q : Int} {kd : IntKind} {aT : Array TypeId} (hx : evalO rs x = some (.int kd p)) (hy : evalO rs y = some (.int kd q)) :
    VOp P n ds rs H Tr (.call ⟨.builtin .min, #[x, y], aT⟩) (.int kd (min p q)) := .pure fun o ho a w r => by
  simp [execOp, ho, resolve, invoke, builtin, Builtin.min_, Builtin.min2, r.eval hx, r.eval hy]
  omega

theorem V_len {oa : Option Addr} {m c : Nat} {aT : TypeId} {e : TypeId} [hu : UT P aT (.slice e)] (hx : evalO rs x = some (.slice oa m c)) :
    VOp P n ds rs H Tr (.call ⟨.builtin .len, #[x], #[aT]⟩) (.int .i64 (m : Int)) := .pure fun o ho a w r => by
  simp [execOp, ho, resolve, invoke, builtin, Builtin.len_, r.eval hx, underlying, hu.under, goInt]

theorem V_mki {dsc : TypeDesc} [hu : UT P T dsc] (hi : ∀ m, dsc ≠ .interface m) (hx : evalO rs x = some v) : VOp P n ds rs H Tr (.makeInterface T x) (.iface T v) := .pure fun o ho a w r => by
  cases dsc <;> first | (exact absurd rfl (hi _)) | simp [execOp, ho, r.eval hx, Instr.makeInterface, underlying, hu.under]

def evalOs (rs : List (Nat × Value)) : List Operand → Option (List Value)
  | [] => some []
  | x :: l => match evalO rs x, evalOs rs l with
    | some v, some vs => some (v :: vs)
    | _, _ => none

theorem Regs.evals {a : Act} (r : Regs n ds rs a) : ∀ {l : List Operand} {vs : List Value}, evalOs rs l = some vs → l.map a.eval = vs
  | [], vs, e => by cases e; rfl
  | x :: l, vs, e => by
    simp only [evalOs] at e
    split at e
    · rename_i v us h1 h2
      cases e
      simp [r.eval h1, Regs.evals r h2]
    · cases e

theorem V_mkf {fn : Fn} {l1 l2 : List Operand} {vs1 vs2 : List Value} (h1 : evalOs rs l1 = some vs1) (h2 : evalOs rs l2 = some vs2) :
    VOp P n ds rs H Tr (.makeFunc fn l1.toArray l2.toArray) (.func fn vs1.toArray vs2.toArray) := .pure fun o ho a w r => by
  simp [execOp, ho, Instr.makeFunc, r.evals h1, r.evals h2]

/-! ### A guard -/

theorem guard_known {dst : Option Tmp} {op : Op} {j t : Nat} {want bb : Bool} {a : Act} (r : Regs n ds rs a) (hj : (ops[j]?).bind (·.dst) = some t) (ht : lookR rs t = some (.bool bb)) :
    Region.wanted ⟨dst, op, ty, ps, af, some (j, want)⟩ (yielded ops a.tmps) = (bb == want) := by
  have ht' := r.at_ t _ ht
  simp only [Region.wanted, yielded]
  cases hoj : ops[j]? with
  | none => simp [hoj] at hj
  | some oj => simp only [hoj, Option.bind_some] at hj ⊢; simp [hj, ht']

theorem Regs.same {a : Act} (r : Regs n ds rs a) {t : Nat} {v u : Value} (ht : lookR rs t = some v) (hu : v = u) : Regs n ds ((t, u) :: rs) a := by
  refine ⟨r.size, r.defers, fun t' v' h => ?_⟩
  simp only [lookR] at h
  cases e : Nat.beq t t' with
  | true =>
    rw [e] at h
    have := Nat.eq_of_beq_eq_true e
    subst this
    simp at h
    rw [r.at_ _ _ ht, hu, h]
  | false => rw [e] at h; exact r.at_ _ _ h

theorem J_on {dst : Option Tmp} {op : Op} {j t : Nat} {want : Bool} (hj : (ops[j]?).bind (·.dst) = some t) (ht : lookR rs t = some (.bool want))
    (h : J n ds rs H (wpListIn (Fc ρ) 0 P ops Q (⟨dst, op, ty, ps, af, none⟩ :: rest))) : J n ds rs H (wpListIn (Fc ρ) 0 P ops Q (⟨dst, op, ty, ps, af, some (j, want)⟩ :: rest)) := by
  intro a w r s
  have := h a w r s
  have hw := guard_known (ty := ty) (ps := ps) (af := af) (dst := dst) (op := op) (want := want) r hj ht
  unfold wpListIn at this ⊢
  rw [if_pos (by simp [Region.wanted])] at this
  rw [if_pos (by rw [hw]; simp)]
  exact this

theorem J_off {op : Op} {j t : Nat} {want bb : Bool} (hj : (ops[j]?).bind (·.dst) = some t) (ht : lookR rs t = some (.bool bb)) (hb : bb = !want) (hd : d < n)
    (h : J n ds ((d, undef) :: rs) H (wpListIn (Fc ρ) 0 P ops Q rest)) : J n ds rs H (wpListIn (Fc ρ) 0 P ops Q (⟨some d, op, ty, ps, af, some (j, want)⟩ :: rest)) := by
  intro a w r s
  have hw := guard_known (ty := ty) (ps := ps) (af := af) (dst := some d) (op := op) (want := want) r hj ht
  unfold wpListIn
  rw [if_neg (by rw [hw, hb]; cases want <;> simp)]
  exact ⟨fun _ _ => trivial, h _ w (r.put hd _) s⟩

/-- A guard that is not known: both ways. -/
theorem J_guard {op : Op} {j t : Nat} {want bb : Bool} (hj : (ops[j]?).bind (·.dst) = some t) (ht : lookR rs t = some (.bool bb)) (hd : d < n)
    (h1 : bb = want → J n ds ((t, .bool want) :: rs) H (wpListIn (Fc ρ) 0 P ops Q (⟨some d, op, ty, ps, af, none⟩ :: rest)))
    (h2 : bb = !want → J n ds ((d, undef) :: (t, .bool (!want)) :: rs) H (wpListIn (Fc ρ) 0 P ops Q rest)) :
    J n ds rs H (wpListIn (Fc ρ) 0 P ops Q (⟨some d, op, ty, ps, af, some (j, want)⟩ :: rest)) := by
  intro a w r s
  have hw := guard_known (ty := ty) (ps := ps) (af := af) (dst := some d) (op := op) (want := want) r hj ht
  unfold wpListIn
  by_cases hb : bb = want
  · have := h1 hb a w (r.same ht (by rw [hb])) s
    unfold wpListIn at this
    rw [if_pos (by simp [Region.wanted])] at this
    rw [if_pos (by rw [hw, hb]; simp)]
    exact this
  · have hb' : bb = !want := by cases bb <;> cases want <;> simp_all
    rw [if_neg (by rw [hw]; simp [hb])]
    exact ⟨fun _ _ => trivial, h2 hb' _ w ((r.same ht (by rw [hb'])).put hd _) s⟩

theorem J_guardT {op : Op} {j t : Nat} {bb : Bool} (hj : (ops[j]?).bind (·.dst) = some t) (ht : lookR rs t = some (.bool bb)) (hd : d < n)
    (h1 : bb = true → J n ds ((t, .bool true) :: rs) H (wpListIn (Fc ρ) 0 P ops Q (⟨some d, op, ty, ps, af, none⟩ :: rest)))
    (h2 : bb = false → J n ds ((d, undef) :: (t, .bool false) :: rs) H (wpListIn (Fc ρ) 0 P ops Q rest)) :
    J n ds rs H (wpListIn (Fc ρ) 0 P ops Q (⟨some d, op, ty, ps, af, some (j, true)⟩ :: rest)) := J_guard hj ht hd h1 h2

theorem J_guardF {op : Op} {j t : Nat} {bb : Bool} (hj : (ops[j]?).bind (·.dst) = some t) (ht : lookR rs t = some (.bool bb)) (hd : d < n)
    (h1 : bb = false → J n ds ((t, .bool false) :: rs) H (wpListIn (Fc ρ) 0 P ops Q (⟨some d, op, ty, ps, af, none⟩ :: rest)))
    (h2 : bb = true → J n ds ((d, undef) :: (t, .bool true) :: rs) H (wpListIn (Fc ρ) 0 P ops Q rest)) :
    J n ds rs H (wpListIn (Fc ρ) 0 P ops Q (⟨some d, op, ty, ps, af, some (j, false)⟩ :: rest)) := J_guard hj ht hd h1 h2

end
end Go.Ws
