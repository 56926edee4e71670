/- Rules that walk a function's operations over owned memory. -/
import Derived.Test.YtgdioloappbjkaaGreatWsHeap
import Derived.Recover
import Derived.RangeFuncIn
import Derived.TacticsIn
import Derived.LoopNIn
import Derived.Laws.Pointers
import Derived.Laws.Small
set_option linter.unusedSectionVars false
set_option linter.unusedVariables false
set_option linter.unusedSimpArgs false
namespace Go.Ws

/-! ### Blocks that are known whole -/

def blk (b : Nat) (T : TypeId) (cs : List Value) : HP := own b (.cells cs.toArray T (0, 0))
abbrev ptr (b o : Nat) : Value := .pointer (some ⟨b, o, none⟩)

theorem cell_of_heap {w : World} {b o : Nat} {T : TypeId} {cs : List Value} {z : Nat × Nat} (h : w.heap[b]? = some (.cells cs.toArray T z)) :
    w.cell? ⟨b, o, none⟩ = cs[o]? := by simp [World.cell?, h]

theorem frozen_of_heap {w : World} {b o : Nat} {T : TypeId} {cs : List Value} (h : w.heap[b]? = some (.cells cs.toArray T (0, 0))) :
    w.frozen? ⟨b, o, none⟩ = false := by simp [World.frozen?, h]

theorem add_none (b o i : Nat) : (Addr.add ⟨b, o, none⟩ i) = ⟨b, o + i, none⟩ := by
  unfold Addr.add; split <;> simp_all

theorem run_loadCellsFrom {P : Program} {w : World} {b o : Nat} {vs : List Value} : ∀ (n i : Nat) (acc : Array Value),
    (∀ j, j < n → w.cell? ⟨b, o + (i + j), none⟩ = vs[i + j]?) → i + n ≤ vs.length →
    (loadCellsFrom ⟨b, o, none⟩ i n acc).run P w = .ok (acc ++ ((vs.drop i).take n).toArray) w
  | 0, _, acc, _, _ => by simp [loadCellsFrom]
  | n + 1, i, acc, h, hl => by
    have h0 := h 0 (by omega)
    have hi : i < vs.length := by omega
    simp only [Nat.add_zero, List.getElem?_eq_getElem hi] at h0
    simp only [loadCellsFrom, Sem.run_bind, add_none, run_load, h0, Result.andThen_ok]
    rw [run_loadCellsFrom n (i + 1) _ (fun j hj => by have := h (j + 1) (by omega); rw [show i + 1 + j = i + (j + 1) from by omega]; exact this) (by omega)]
    congr 1
    rw [List.drop_eq_getElem_cons (l := vs) (i := i) hi, List.take_succ_cons]
    simp

/-- Cells in a row, loaded. -/
theorem run_loadCells {P : Program} {w : World} {b o n : Nat} {vs : List Value} (h : ∀ j, j < n → w.cell? ⟨b, o + j, none⟩ = vs[j]?) (hl : vs.length = n) :
    (loadCells ⟨b, o, none⟩ n).run P w = .ok vs.toArray w := by
  unfold loadCells
  rw [run_loadCellsFrom (vs := vs) n 0 #[] (by simpa using h) (by omega)]
  simp [← hl]

def setB (w : World) (b : Nat) (o : Obj) : World := { w with heap := w.heap.setIfInBounds b o }

theorem setB_at {w : World} {b : Nat} {o o' : Obj} (h : w.heap[b]? = some o) : SetAt w (setB w b o') b o' := by
  refine ⟨fun x => ?_, rfl⟩
  have hb : b < w.heap.size := by
    rcases Nat.lt_or_ge b w.heap.size with h' | h'
    · exact h'
    · simp [Array.getElem?_eq_none h'] at h
  simp only [setB, Array.getElem?_setIfInBounds]
  by_cases e : b = x
  · subst e; simp [hb]
  · simp [e, Ne.symm e]

theorem setCell_setB {w : World} {b o : Nat} {v : Value} {cs : List Value} {T : TypeId} {z : Nat × Nat} (h : w.heap[b]? = some (.cells cs.toArray T z)) :
    w.setCell ⟨b, o, none⟩ v = setB w b (.cells (cs.set o v).toArray T z) := by
  have hb : b < w.heap.size := by
    rcases Nat.lt_or_ge b w.heap.size with h' | h'
    · exact h'
    · simp [Array.getElem?_eq_none h'] at h
  simp only [World.setCell, setB]
  congr 1
  apply Array.ext_getElem?
  intro x
  simp only [Array.getElem?_modify, Array.getElem?_setIfInBounds]
  by_cases e : b = x
  · subst e
    rw [Array.getElem?_eq_getElem hb] at h
    simp only [Option.some.injEq] at h
    simp [hb, h]
  · simp [e]

theorem setB_same {w : World} {b : Nat} {o : Obj} (h : w.heap[b]? = some o) : setB w b o = w := by
  have : w.heap.setIfInBounds b o = w.heap := by
    apply Array.ext_getElem?
    intro x
    simp only [Array.getElem?_setIfInBounds]
    by_cases e : b = x
    · subst e
      split
      · split
        · exact h.symm
        · rename_i hn; simp [Array.getElem?_eq_none (Nat.le_of_not_lt hn)] at h
      · simp_all
    · simp [e]
  simp [setB, this]

theorem setB_setB {w : World} {b : Nat} {o o' : Obj} : setB (setB w b o) b o' = setB w b o' := by
  simp [setB]

theorem run_storeCells {P : Program} {b o : Nat} {T : TypeId} : ∀ (vs : List Value) (i : Nat) (w : World) (cs : List Value),
    w.heap[b]? = some (.cells cs.toArray T (0, 0)) → o + i + vs.length ≤ cs.length → vs.all Value.oneCell' = true →
    (storeCells ⟨b, o, none⟩ vs i).run P w = .ok () (setB w b (.cells (cs.take (o + i) ++ vs ++ cs.drop (o + i + vs.length)).toArray T (0, 0)))
  | [], i, w, cs, h, _, _ => by
    simp only [storeCells, Sem.run_pure, List.append_nil, List.length_nil, Nat.add_zero, List.take_append_drop]
    rw [setB_same h]
  | v :: vs, i, w, cs, h, hl, h1 => by
    simp only [List.all_cons, Bool.and_eq_true, List.length_cons] at h1 hl
    have hlt : o + i < cs.length := by omega
    have hc : w.cell? ⟨b, o + i, none⟩ = some (cs[o + i]) := by rw [cell_of_heap h, List.getElem?_eq_getElem hlt]
    have hf : w.frozen? ⟨b, o + i, none⟩ = false := frozen_of_heap h
    have h1' : v.oneCell' = true := h1.1
    simp only [storeCells, Sem.run_bind, add_none, run_store P w _ v .plain h1', hc, hf, Bool.false_eq_true, if_false, Result.andThen_ok]
    rw [setCell_setB h]
    rw [run_storeCells (T := T) vs (i + 1) (setB w b (.cells (cs.set (o + i) v).toArray T (0, 0))) (cs.set (o + i) v) (by rw [(setB_at h).at_]; simp) (by simp; omega) h1.2]
    congr 1
    rw [setB_setB]
    congr 3
    apply List.ext_getElem?
    intro x
    simp only [List.getElem?_append, List.length_take, List.length_append, List.getElem?_take, List.getElem?_drop, List.length_set, List.getElem?_set, List.length_cons]
    by_cases h1 : x < o + i
    · rw [if_pos (by omega), if_pos (by omega), if_pos (by omega), if_neg (by omega), if_pos (by omega), if_pos (by omega), if_pos h1]
    · by_cases h2 : x = o + i
      · subst h2
        rw [if_pos (by omega), if_pos (by omega), if_pos (by omega), if_pos rfl, if_pos hlt, if_pos (by omega), if_neg (by omega)]
        simp [Nat.min_eq_left (Nat.le_of_lt hlt)]
      · by_cases h3 : x < o + i + (vs.length + 1)
        · rw [if_pos (by omega), if_neg (by omega), if_pos (by omega), if_neg (by omega)]
          rw [show x - min (o + i) cs.length = (x - min (o + (i + 1)) cs.length) + 1 from by omega, List.getElem?_cons_succ]
        · rw [if_neg (by omega), if_neg (by omega), if_neg (by omega)]
          congr 1
          omega

/-! ### What is known of a frame -/

def lookR : List (Nat × Value) → Nat → Option Value
  | [], _ => none
  | (t, v) :: l, s => bif Nat.beq t s then some v else lookR l s

structure Regs (n : Nat) (ds : List Deferred) (rs : List (Nat × Value)) (a : Act) : Prop where
  size : a.tmps.size = n
  defers : a.defers = ds
  at_ : ∀ t v, lookR rs t = some v → a.tmps[t]? = some v

def evalO (rs : List (Nat × Value)) : Operand → Option Value
  | .tmp t => lookR rs t
  | .const v => some v
  | .global g => some (.pointer (some ⟨g, 0, none⟩))
  | .func f => some (.func (.func f) #[] #[])

theorem Regs.eval {n : Nat} {ds : List Deferred} {rs : List (Nat × Value)} {a : Act} (h : Regs n ds rs a) {x : Operand} {v : Value} (e : evalO rs x = some v) : a.eval x = v := by
  cases x with
  | tmp t =>
    have := h.at_ t v e
    show a.tmps.getD t undef = v
    rw [Array.getD_eq_getD_getElem?, this]; rfl
  | const c => cases e; rfl
  | global g => cases e; rfl
  | func f => cases e; rfl

theorem Regs.put {n : Nat} {ds : List Deferred} {rs : List (Nat × Value)} {a : Act} (h : Regs n ds rs a) {d : Nat} (hd : d < n) (v : Value) :
    Regs n ds ((d, v) :: rs) (a.put (some d) v) := by
  refine ⟨by simp [Act.put, h.size], by simp [Act.put, h.defers], fun t u hu => ?_⟩
  simp only [lookR] at hu
  simp only [Act.put, Array.getElem?_setIfInBounds, h.size]
  cases e : Nat.beq d t with
  | true =>
    rw [e] at hu
    have := Nat.eq_of_beq_eq_true e
    subst this
    simp [hd]
    simpa using hu
  | false =>
    rw [e] at hu
    have := Nat.ne_of_beq_eq_false e
    rw [if_neg this]
    exact h.at_ t u hu

theorem Regs.weak {n : Nat} {ds : List Deferred} {rs rs' : List (Nat × Value)} {a : Act} (h : Regs n ds rs a) (hs : ∀ t v, lookR rs' t = some v → lookR rs t = some v) : Regs n ds rs' a :=
  ⟨h.size, h.defers, fun t v e => h.at_ t v (hs t v e)⟩

/-- Of a frame's kind alone: whether it is a loop's round. -/
abbrev Fc (ρ : Option Nat) : Fence := { fn := fun _ => True, depth := none, alive := false, round := ρ }

theorem callsIn_of {ρ : Option Nat} {n : Nat} {P : Program} {f : FuncId} {args : Array Value} {w : World} {R : Ending → World → Prop} (h : Calls P f args w R) : CallsIn (Fc ρ) n P f args w R := (callsIn_wide (n := n)).2 h

theorem semAt_run {P : Program} {ρ : Option Nat} {e : Operand → Value} {o : Oper} {w w' : World} {nx : Next} (h : (execOp e o).run P w = .ok nx w') (hx : ∀ d, nx ≠ .defer d) : (Oper.semAt ρ e o).run P w = .ok nx w' := by
  cases ho : o.op with
  | defer c =>
    exfalso
    simp only [execOp, ho, Sem.run_bind] at h
    cases hr : (resolve e c o.type).run P w with
    | ok d w1 => rw [hr] at h; simp at h; exact hx d h.1.symm
    | halt a b => rw [hr] at h; simp at h
  | _ => rw [Oper.semAt_eq ρ e o (fun c hc => by rw [ho] at hc; cases hc)]; exact h

/-- What an operation comes to, in any frame. -/
theorem op_wp {P : Program} {ρ : Option Nat} {o : Oper} {a : Act} {w w' : World} {K : Act → World → Prop} {Q : Exit → Act → World → Prop} {nx : Next} (e : (execOp a.eval o).run P w = .ok nx w') (hx : ∀ d, nx ≠ .defer d)
    (k : o.uponIn (Fc ρ) 0 P a K Q (.ok nx w')) : o.wpIn (Fc ρ) 0 P a w K Q := ⟨fun _ _ => trivial, by
  have := semAt_run (ρ := ρ) e hx
  show o.uponIn (Fc ρ) 0 P a K Q ((Oper.semAt ρ a.eval o).run P w)
  rw [this]; exact k⟩

/-- From a state of which this much is known, 'G' holds. -/
def J (n : Nat) (ds : List Deferred) (rs : List (Nat × Value)) (H : List HP) (G : Act → World → Prop) : Prop :=
  ∀ a w, Regs n ds rs a → Sat w (stars H) → G a w

section
variable {P : Program} {ρ : Option Nat} {n : Nat} {ds : List Deferred} {rs : List (Nat × Value)} {H : List HP} {Q : Exit → Act → World → Prop}

theorem J_mono {G G' : Act → World → Prop} (h : J n ds rs H G) (g : ∀ a w, G a w → G' a w) : J n ds rs H G' := fun a w r s => g a w (h a w r s)

theorem J_seq {x y : Code} (h : ∀ K : Act → World → Prop, (∀ n ds rs H, J n ds rs H (y.wpIn (Fc ρ) 0 P Q) → J n ds rs H K) → J n ds rs H (x.wpIn (Fc ρ) 0 P (Exit.then K Q))) :
    J n ds rs H ((Code.seq x y).wpIn (Fc ρ) 0 P Q) := fun a w r s => wpIn_seq (h _ (fun _ _ _ _ h => h) a w r s)

theorem J_skip (h : J n ds rs H (Q .normal)) : J n ds rs H (Code.skip.wpIn (Fc ρ) 0 P Q) := fun a w r s => wpIn_skip (h a w r s)
theorem J_ret (h : J n ds rs H (Q .ret)) : J n ds rs H (Code.ret.wpIn (Fc ρ) 0 P Q) := fun a w r s => wpIn_ret (h a w r s)
theorem J_exit {id : Nat} (h : J n ds rs H (Q (.exit id))) : J n ds rs H ((Code.exit id).wpIn (Fc ρ) 0 P Q) := fun a w r s => wpIn_exit (h a w r s)
theorem J_goto {id : Nat} (h : J n ds rs H (Q (.goto id))) : J n ds rs H ((Code.goto id).wpIn (Fc ρ) 0 P Q) := fun a w r s => wpIn_goto (h a w r s)
theorem J_label {id : Nat} (h : J n ds rs H (Q .normal)) : J n ds rs H ((Code.label id).wpIn (Fc ρ) 0 P Q) := fun a w r s => wpIn_label (h a w r s)
theorem J_block {id : Nat} {c : Code} (h : J n ds rs H (c.wpIn (Fc ρ) 0 P (Exit.inBlock id Q))) : J n ds rs H ((Code.block id c).wpIn (Fc ρ) 0 P Q) := fun a w r s => wpIn_block (h a w r s)

theorem J_cond {c : Operand} {x y : Code} {t : Bool} (hc : evalO rs c = some (.bool t)) (h1 : t = true → J n ds rs H (x.wpIn (Fc ρ) 0 P Q)) (h2 : t = false → J n ds rs H (y.wpIn (Fc ρ) 0 P Q)) :
    J n ds rs H ((Code.cond c x y).wpIn (Fc ρ) 0 P Q) := fun a w r s => wpIn_cond_split (r.eval hc) (fun e => h1 e a w r s) (fun e => h2 e a w r s)

theorem J_condT {c : Operand} {x y : Code} (hc : evalO rs c = some (.bool true)) (h : J n ds rs H (x.wpIn (Fc ρ) 0 P Q)) : J n ds rs H ((Code.cond c x y).wpIn (Fc ρ) 0 P Q) :=
  fun a w r s => wpIn_cond_true (r.eval hc) (h a w r s)
theorem J_condF {c : Operand} {x y : Code} (hc : evalO rs c = some (.bool false)) (h : J n ds rs H (y.wpIn (Fc ρ) 0 P Q)) : J n ds rs H ((Code.cond c x y).wpIn (Fc ρ) 0 P Q) :=
  fun a w r s => wpIn_cond_false (r.eval hc) (h a w r s)

theorem J_region {id : Nat} {l : List Oper} (h : J n ds rs H (wpListIn (Fc ρ) 0 P l.toArray Q l)) : J n ds rs H ((Code.region id l.toArray false).wpIn (Fc ρ) 0 P Q) :=
  fun a w r s => wpIn_region_lit (h a w r s)

theorem J_nil {ops : Array Oper} (h : J n ds rs H (Q .normal)) : J n ds rs H (wpListIn (Fc ρ) 0 P ops Q []) := fun a w r s => wpListIn_nil (h a w r s)

theorem J_normal {K : Act → World → Prop} (h : J n ds rs H K) : J n ds rs H (Exit.then K Q .normal) := h

variable {ops : Array Oper} {rest : List Oper} {ty : TypeId} {ps : String} {af : Array Edge} {d : Nat}

/-- What an operation yields, wherever 'H' is borne; 'φ' is what it reads. -/
def VOp (P : Program) (n : Nat) (ds : List Deferred) (rs : List (Nat × Value)) (H : List HP) (φ : World → Prop) (op : Op) (v : Value) : Prop :=
  (∀ w, Sat w (stars H) → φ w) ∧ ∀ (o : Oper), o.op = op → ∀ a w, Regs n ds rs a → φ w → (execOp a.eval o).run P w = .ok (.value v) w

def Tr : World → Prop := fun _ => True

theorem VOp.pure {op : Op} {v : Value} (h : ∀ (o : Oper), o.op = op → ∀ a w, Regs n ds rs a → (execOp a.eval o).run P w = .ok (.value v) w) : VOp P n ds rs H Tr op v :=
  ⟨fun _ _ => trivial, fun o ho a w r _ => h o ho a w r⟩

/-- An operation that makes one new block. -/
def NOp (P : Program) (n : Nat) (ds : List Deferred) (rs : List (Nat × Value)) (op : Op) (ob : Obj) (mk : Nat → Value) : Prop :=
  ∀ (o : Oper), o.op = op → ∀ a w, Regs n ds rs a → (execOp a.eval o).run P w = .ok (.value (mk w.heap.size)) (w.alloc ob)

/-- An operation that yields a value. -/
theorem J_valw {op : Op} {v : Value} {H' : List HP} (hd : d < n)
    (hrun : ∀ a w, Regs n ds rs a → Sat w (stars H) → ∃ w', (execOp a.eval ⟨some d, op, ty, ps, af, none⟩).run P w = .ok (.value v) w' ∧ Sat w' (stars H'))
    (h : J n ds ((d, v) :: rs) H' (wpListIn (Fc ρ) 0 P ops Q rest)) : J n ds rs H (wpListIn (Fc ρ) 0 P ops Q (⟨some d, op, ty, ps, af, none⟩ :: rest)) := by
  intro a w r s
  obtain ⟨w', e, s'⟩ := hrun a w r s
  unfold wpListIn
  rw [if_pos (by simp [Region.wanted])]
  refine op_wp (e) (by simp) ?_
  exact h _ w' (r.put hd v) s'

theorem J_V {op : Op} {v : Value} {φ : World → Prop} (hv : VOp P n ds rs H φ op v) (hd : d < n)
    (h : J n ds ((d, v) :: rs) H (wpListIn (Fc ρ) 0 P ops Q rest)) : J n ds rs H (wpListIn (Fc ρ) 0 P ops Q (⟨some d, op, ty, ps, af, none⟩ :: rest)) :=
  J_valw hd (fun a w r s => ⟨w, hv.2 _ rfl a w r (hv.1 w s), s⟩) h

theorem J_N {op : Op} {ob : Obj} {mk : Nat → Value} {F : HP} {H : List HP} (c : Nat → HP) (hn : NOp P n ds rs op ob mk) (hc : ∀ b, c b = own b ob) (hd : d < n)
    (h : ∀ b, J n ds ((d, mk b) :: rs) (F :: c b :: H) (wpListIn (Fc ρ) 0 P ops Q rest)) : J n ds rs (F :: H) (wpListIn (Fc ρ) 0 P ops Q (⟨some d, op, ty, ps, af, none⟩ :: rest)) := by
  intro a w r s
  unfold wpListIn
  rw [if_pos (by simp [Region.wanted])]
  refine op_wp (hn _ rfl a w r) (by simp) ?_
  refine h w.heap.size _ _ (r.put hd _) ?_
  rw [hc]
  exact (new_at s .alloc).imp fun _ x => sep_left x

/-- One that does something, and yields nothing. -/
theorem J_skipw {op : Op} {H' : List HP}
    (hrun : ∀ a w, Regs n ds rs a → Sat w (stars H) → ∃ w', (execOp a.eval ⟨none, op, ty, ps, af, none⟩).run P w = .ok .skip w' ∧ Sat w' (stars H'))
    (h : J n ds rs H' (wpListIn (Fc ρ) 0 P ops Q rest)) : J n ds rs H (wpListIn (Fc ρ) 0 P ops Q (⟨none, op, ty, ps, af, none⟩ :: rest)) := by
  intro a w r s
  obtain ⟨w', e, s'⟩ := hrun a w r s
  unfold wpListIn
  rw [if_pos (by simp [Region.wanted])]
  refine op_wp (e) (by simp) ?_
  exact h _ w' r s'

end
end Go.Ws
