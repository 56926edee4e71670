/- A plan's check, by reckoning; the steps of its walk. -/
import Derived.Test.YtgdioloappbjkaaGreatWsDraw
import Derived.KernelRfl
set_option linter.unusedSectionVars false
set_option linter.unusedVariables false
set_option linter.unusedSimpArgs false
namespace Go.Ws

def pairB (f : DStep → DStep → Bool) : List DStep → Bool
  | [] => true
  | s :: l => l.all (f s) && pairB f l

theorem pairB_spec {f : DStep → DStep → Bool} {R : DStep → DStep → Prop} (hR : ∀ s t, f s t = true → R s t) : ∀ {l : List DStep}, pairB f l = true → l.Pairwise R
  | [], _ => .nil
  | s :: l, h => by
    simp only [pairB, Bool.and_eq_true, List.all_eq_true] at h
    exact .cons (fun t ht => hR s t (h.1 t ht)) (pairB_spec hR h.2)

def nodupB : List Nat → Bool
  | [] => true
  | i :: l => !l.contains i && nodupB l

theorem nodupB_spec : ∀ {l : List Nat}, nodupB l = true → l.Nodup
  | [], _ => .nil
  | i :: l, h => by
    simp only [nodupB, Bool.and_eq_true, Bool.not_eq_true', List.contains_eq_mem] at h
    exact List.nodup_cons.2 ⟨by simpa using h.1, nodupB_spec h.2⟩

def unionL (m : Nat → Nat) : List Edge → Nat
  | [] => 0
  | e :: l => (if Region.binds .any e then 2 ^ e.on ||| m e.on else 0) ||| unionL m l

theorem unionL_spec {m : Nat → Nat} {j : Nat} : ∀ {l : List Edge}, (unionL m l).testBit j = true → ∃ e ∈ l, Region.binds .any e = true ∧ (e.on = j ∨ (m e.on).testBit j = true)
  | [], h => by simp [unionL] at h
  | e :: l, h => by
    simp only [unionL, Nat.testBit_or, Bool.or_eq_true] at h
    rcases h with h | h
    · by_cases hb : Region.binds .any e = true
      · rw [if_pos hb, Nat.testBit_or, Bool.or_eq_true] at h
        rcases h with h | h
        · rw [Nat.testBit_two_pow] at h
          exact ⟨e, by simp, hb, .inl (by simpa using h)⟩
        · exact ⟨e, by simp, hb, .inr h⟩
      · rw [if_neg hb] at h; simp at h
    · obtain ⟨e', he, h1⟩ := unionL_spec h
      exact ⟨e', by simp [he], h1⟩

def DStep.isEff (i : Nat) : DStep → Bool
  | .eff j => i == j
  | _ => false
def DStep.isTake (i : Nat) : DStep → Bool
  | .take j => i == j
  | _ => false
def DStep.isAnn (i : Nat) : DStep → Bool
  | .ann j => i == j
  | _ => false
def DStep.isQA (i : Nat) : DStep → Bool
  | .q j | .ann j => i == j
  | _ => false

/-- What 't' writes, if it is no announcement. -/
def DStep.writes : DStep → Option Nat
  | .q i | .eff i | .take i => some i
  | .ann _ => none

def orderB (m : Nat → Nat) (s t : DStep) : Bool := match s.waits, t.work with
  | some x, some y => (m y).testBit x
  | _, _ => true

def looksB (ops : Array Oper) (m : Nat → Nat) (s t : DStep) : Bool := match s.work, t.writes with
  | some x, some y => match ops[x]?, dstOf ops y with
    | some o, some d => !(o.looksAt ops).contains d || (t.isEff y && (m y).testBit x)
    | _, _ => true
  | _, _ => true

def annB (s t : DStep) : Bool := match s with
  | .take i => !t.isAnn i && !t.isTake i
  | _ => true

def isSel : Op → Bool
  | .select .. => true
  | _ => false

def planB (ops : Array Oper) (m : Nat → Nat) (π : List DStep) : Bool :=
  ((List.range ops.size).all fun i => match ops[i]? with
    | some o => (o.after.toList.all fun e => !Region.binds .any e || decide (e.on < i)) && ((m i ||| unionL m o.after.toList) == unionL m o.after.toList) && !isSel o.op &&
      ((List.range ops.size).all fun y => match dstOf ops y with
        | some d => !(o.looksAt ops).contains d || (y == i) || (m i).testBit y || ((m y).testBit i && π.any (·.isEff y))
        | none => true) &&
      (match o.dst with
        | some d => !(o.looksAt ops).contains d || !π.any (·.isQA i)
        | none => !π.any (·.isAnn i)) &&
      (π.filterMap DStep.work).contains i &&
      ((List.range ops.size).all fun j => match dstOf ops i, dstOf ops j with
        | some d, some d' => d != d' || i == j
        | _, _ => true)
    | none => true) &&
  nodupB (π.filterMap DStep.work) && (π.filterMap DStep.work).all (· < ops.size) &&
  pairB (orderB m) π && pairB (looksB ops m) π && pairB annB π &&
  π.all (fun s => match s with | .ann i => π.any (·.isTake i) | .take i => π.any (·.isAnn i) | _ => true)

theorem plan_ok {ops : Array Oper} {m : Nat → Nat} {π : List DStep} (h : planB ops m π = true) : Plan ops m π := by
  simp only [planB, Bool.and_eq_true] at h
  obtain ⟨⟨⟨⟨⟨⟨h1, h2⟩, h3⟩, h4⟩, h5⟩, h6⟩, h7⟩ := h
  have hone : ∀ i o, ops[i]? = some o → _ := fun i o ho => by
    have hlt := (Array.getElem?_eq_some_iff.1 ho).1
    have := List.all_eq_true.1 h1 i (List.mem_range.2 hlt)
    rw [ho] at this
    exact this
  have hone : ∀ i o, ops[i]? = some o → ((((((o.after.toList.all fun e => !Region.binds .any e || decide (e.on < i)) && ((m i ||| unionL m o.after.toList) == unionL m o.after.toList) && !isSel o.op &&
      ((List.range ops.size).all fun y => match dstOf ops y with
        | some d => !(o.looksAt ops).contains d || (y == i) || (m i).testBit y || ((m y).testBit i && π.any (·.isEff y))
        | none => true)) &&
      (match o.dst with
        | some d => !(o.looksAt ops).contains d || !π.any (·.isQA i)
        | none => !π.any (·.isAnn i))) &&
      (π.filterMap DStep.work).contains i)) &&
      ((List.range ops.size).all fun j => match dstOf ops i, dstOf ops j with
        | some d, some d' => d != d' || i == j
        | _, _ => true)) = true := fun i o ho => by
    have hlt := (Array.getElem?_eq_some_iff.1 ho).1
    have := List.all_eq_true.1 h1 i (List.mem_range.2 hlt)
    simp only [ho] at this
    exact this
  simp only [Bool.and_eq_true] at hone
  have anyOf : ∀ {p : DStep → Bool} {s : DStep}, s ∈ π → p s = true → π.any p = true := fun hs hp => List.any_eq_true.2 ⟨_, hs, hp⟩
  constructor
  case back =>
    intro i o ho e he hb
    obtain ⟨⟨⟨⟨⟨⟨g1, _⟩, _⟩, _⟩, _⟩, _⟩, _⟩ := hone i o ho
    have := List.all_eq_true.1 g1 e (by simpa using he)
    simpa [hb] using this
  case mask =>
    intro i o ho j hj
    obtain ⟨⟨⟨⟨⟨⟨_, g2⟩, _⟩, _⟩, _⟩, _⟩, _⟩ := hone i o ho
    have : (unionL m o.after.toList).testBit j = true := by
      rw [← eq_of_beq g2, Nat.testBit_or, hj, Bool.true_or]
    obtain ⟨e, he, h⟩ := unionL_spec this
    exact ⟨e, by simpa using he, h⟩
  case all =>
    intro i hi
    obtain ⟨⟨_, g⟩, _⟩ := hone i _ (Array.getElem?_eq_getElem hi)
    simpa using g
  case once => exact nodupB_spec h2
  case inside => intro i hi; simpa using List.all_eq_true.1 h3 i hi
  case order =>
    refine pairB_spec (fun s t hst x y hx hy => ?_) h4
    simpa [orderB, hx, hy] using hst
  case looks =>
    refine pairB_spec (fun s t hst x y d o hx ht ho hd hl => ?_) h5
    have hw : t.writes = some y := by rcases ht with rfl | rfl | rfl <;> rfl
    simp only [looksB, hx, hw, ho, hd, List.contains_eq_mem, hl, decide_true, Bool.not_true, Bool.false_or, Bool.and_eq_true] at hst
    refine ⟨?_, hst.2⟩
    rcases ht with rfl | rfl | rfl
    · simp [DStep.isEff] at hst
    · rfl
    · simp [DStep.isEff] at hst
  case dsts =>
    intro i j d hi hj
    have hio : ∃ o, ops[i]? = some o := by unfold dstOf at hi; cases h : ops[i]? with | none => simp [h] at hi | some o => exact ⟨o, rfl⟩
    obtain ⟨o, ho⟩ := hio
    have hjl : j < ops.size := by
      unfold dstOf at hj; cases h : ops[j]? with | none => simp [h] at hj | some o => exact (Array.getElem?_eq_some_iff.1 h).1
    obtain ⟨_, g⟩ := hone i o ho
    have := List.all_eq_true.1 g j (List.mem_range.2 hjl)
    simpa [hi, hj] using this
  case noSel =>
    intro i o cs b ho e
    obtain ⟨⟨⟨⟨⟨⟨_, _⟩, g⟩, _⟩, _⟩, _⟩, _⟩ := hone i o ho
    rw [e] at g; simp [isSel] at g
  case prod =>
    intro x y d o ho hd hl hne
    obtain ⟨⟨⟨⟨_, g⟩, _⟩, _⟩, _⟩ := hone x o ho
    have hyl : y < ops.size := by
      unfold dstOf at hd; cases h : ops[y]? with | none => simp [h] at hd | some o => exact (Array.getElem?_eq_some_iff.1 h).1
    have := List.all_eq_true.1 g y (List.mem_range.2 hyl)
    simp only [hd, List.contains_eq_mem, hl, decide_true, Bool.not_true, Bool.false_or, Bool.or_eq_true, beq_iff_eq, Bool.and_eq_true] at this
    rcases this with (h | h) | h
    · exact absurd h hne
    · exact .inl h
    · refine .inr ⟨h.1, ?_⟩
      obtain ⟨s, hs, he⟩ := List.any_eq_true.1 h.2
      cases s <;> simp [DStep.isEff] at he
      subst he; exact hs
  case own_ =>
    intro i o d hq ho hd
    obtain ⟨⟨⟨_, g⟩, _⟩, _⟩ := hone i o ho
    simp only [hd, Bool.or_eq_true, Bool.not_eq_true', List.contains_eq_mem, decide_eq_false_iff_not] at g
    rcases g with g | g
    · exact g
    · exfalso
      have : π.any (·.isQA i) = true := by rcases hq with hq | hq <;> exact anyOf hq (by simp [DStep.isQA])
      rw [this] at g; cases g
  case annFirst =>
    refine pairB_spec (fun s t hst i hs => ?_) h6
    subst hs
    simp only [annB, Bool.and_eq_true, Bool.not_eq_true'] at hst
    refine ⟨fun e => ?_, fun e => ?_⟩
    · subst e; simp [DStep.isAnn] at hst
    · subst e; simp [DStep.isTake] at hst
  case annDst =>
    intro i hi
    have hin : i ∈ π.filterMap DStep.work := mem_work hi rfl
    have hlt : i < ops.size := by simpa using List.all_eq_true.1 h3 i hin
    obtain ⟨⟨⟨_, g⟩, _⟩, _⟩ := hone i _ (Array.getElem?_eq_getElem hlt)
    cases hd : ops[i].dst with
    | some d => exact ⟨d, by simp [dstOf, Array.getElem?_eq_getElem hlt, hd]⟩
    | none =>
      exfalso
      rw [hd] at g
      have := anyOf hi (p := (·.isAnn i)) (by simp [DStep.isAnn])
      simp [this] at g
  case taken =>
    intro i hi
    have := List.all_eq_true.1 h7 _ hi
    obtain ⟨s, hs, he⟩ := List.any_eq_true.1 this
    cases s <;> simp [DStep.isTake] at he
    subst he; exact hs
  case tookAnn =>
    intro i hi
    have := List.all_eq_true.1 h7 _ hi
    obtain ⟨s, hs, he⟩ := List.any_eq_true.1 this
    cases s <;> simp [DStep.isAnn] at he
    subst he; exact hs

/-! ### The steps -/

/-- What is known stays, but for what is ahead. -/
def Keep (mask : Nat) (Φ : Facts) (H : List HP) : Prop := ∀ p ∈ Φ, mask.testBit p.1 = false → ∀ w, Sat w (stars H) → p.2 w

section
variable {P : Program} {ρ : Option Nat} {ops : Array Oper} {Q : Exit → Act → World → Prop} {n : Nat} {ds : List Deferred} {F : HP} {m : Nat → Nat} {π : List DStep}
variable {rs : List (Nat × Value)} {H : List HP} {Φ : Facts} {A : Anns} {i j t d : Nat} {op : Op} {ty : TypeId} {ps : String} {af : Array Edge} {v : Value} {φ : World → Prop}

theorem keep_nil {mask : Nat} : Keep mask [] H := fun _ h => by cases h
theorem keep_ahead {mask : Nat} (h : mask.testBit i = true) (k : Keep mask Φ H) : Keep mask ((i, φ) :: Φ) H := fun p hp hm => by
  rcases List.mem_cons.1 hp with rfl | hp
  · rw [h] at hm; cases hm
  · exact k p hp hm
theorem keep_tr {mask : Nat} (k : Keep mask Φ H) : Keep mask ((i, Tr) :: Φ) H := fun p hp hm => by
  rcases List.mem_cons.1 hp with rfl | hp
  · exact fun _ _ => trivial
  · exact k p hp hm
theorem keep_cells {mask b o c : Nat} {T : TypeId} {cs vs : List Value} [hb : BlkAt H b T cs] [hv : SubL cs o c vs] (k : Keep mask Φ H) : Keep mask ((i, Cells b o vs) :: Φ) H := fun p hp hm => by
  rcases List.mem_cons.1 hp with rfl | hp
  · exact fun w s => hb.cells s hv
  · exact k p hp hm
theorem keep_cell {mask b o : Nat} {T : TypeId} {cs : List Value} [hb : BlkAt H b T cs] [hv : NthL cs o v] (k : Keep mask Φ H) : Keep mask ((i, Cells b o [v]) :: Φ) H := fun p hp hm => by
  rcases List.mem_cons.1 hp with rfl | hp
  · intro w s j hj
    have : j = 0 := by simpa using hj
    subst this
    rw [cell_of_heap (hb.heap s)]; exact hv.nth
  · exact k p hp hm

theorem D_nil (h : J n ds rs (F :: H) (Q .normal)) : DW ρ P ops Q n ds F m [] rs H Φ A := h

theorem D_q (ho : ops[i]? = some ⟨some d, op, ty, ps, af, none⟩) (hv : VOp P n ds rs H φ op v) (hd : d < n) (h : DW ρ P ops Q n ds F m π ((d, v) :: rs) H ((i, φ) :: Φ) A) :
    DW ρ P ops Q n ds F m (.q i :: π) rs H Φ A := ⟨_, d, v, φ, ho, rfl, hd, .inl ⟨.inl ⟨rfl, rfl⟩, hv⟩, h⟩

theorem D_qon {want : Bool} (ho : ops[i]? = some ⟨some d, op, ty, ps, af, some (j, want)⟩) (hj : dstOf ops j = some t) (ht : lookR rs t = some (.bool want)) (hv : VOp P n ds rs H φ op v) (hd : d < n)
    (h : DW ρ P ops Q n ds F m π ((d, v) :: rs) H ((i, φ) :: Φ) A) : DW ρ P ops Q n ds F m (.q i :: π) rs H Φ A :=
  ⟨_, d, v, φ, ho, rfl, hd, .inl ⟨.inr ⟨j, want, t, rfl, hj, by simpa using ht⟩, hv⟩, h⟩

theorem D_qoff {want bb : Bool} (ho : ops[i]? = some ⟨some d, op, ty, ps, af, some (j, want)⟩) (hj : dstOf ops j = some t) (ht : lookR rs t = some (.bool bb)) (hb : bb = !want) (hd : d < n)
    (h : DW ρ P ops Q n ds F m π ((d, undef) :: rs) H ((i, Tr) :: Φ) A) : DW ρ P ops Q n ds F m (.q i :: π) rs H Φ A :=
  ⟨_, d, undef, Tr, ho, rfl, hd, .inr ⟨.inr ⟨j, want, t, rfl, hj, by subst hb; cases want <;> simpa using ht⟩, rfl, rfl⟩, h⟩

/-- A guard that is not known. -/
theorem D_split {s : DStep} {dst : Option Tmp} {want bb : Bool} (hs : s.work = some i) (ho : ops[i]? = some ⟨dst, op, ty, ps, af, some (j, want)⟩) (hj : dstOf ops j = some t) (ht : lookR rs t = some (.bool bb))
    (h1 : bb = true → DW ρ P ops Q n ds F m (s :: π) rs H Φ A) (h2 : bb = false → DW ρ P ops Q n ds F m (s :: π) rs H Φ A) : DW ρ P ops Q n ds F m (s :: π) rs H Φ A := by
  cases bb
  · exact h2 rfl
  · exact h1 rfl

theorem D_ann {ob : Obj} {mk : Nat → Value} (ho : ops[i]? = some ⟨some d, op, ty, ps, af, none⟩) (hn : NOp P n ds rs op ob mk) (hd : d < n) (h : DW ρ P ops Q n ds F m π rs H Φ ((i, ob, mk) :: A)) :
    DW ρ P ops Q n ds F m (.ann i :: π) rs H Φ A := ⟨_, ob, mk, ho, rfl, ⟨d, rfl, hd⟩, hn, h⟩

theorem D_take {ob : Obj} {mk : Nat → Value} (c : Nat → HP) (hi : dstOf ops i = some d) (hA : lookA A i = some (ob, mk)) (hc : ∀ b, c b = own b ob) (hd : d < n)
    (h : ∀ b, DW ρ P ops Q n ds F m π ((d, mk b) :: rs) (c b :: H) Φ A) : DW ρ P ops Q n ds F m (.take i :: π) rs H Φ A :=
  ⟨d, ob, mk, hi, hd, hA, fun b => by rw [← hc]; exact h b⟩

/-- What follows something that acts. -/
def Next (ρ : Option Nat) (P : Program) (ops : Array Oper) (Q : Exit → Act → World → Prop) (n : Nat) (ds : List Deferred) (F : HP) (m : Nat → Nat) (mask : Nat) (π : List DStep) (Φ : Facts) (A : Anns) (F' : HP) (G : Act → World → Prop) : Prop :=
  ∀ rs' H', Keep mask Φ H' → DW ρ P ops Q n ds F m π rs' H' Φ A → J n ds rs' (F' :: H') G

theorem J_next {mask : Nat} {F' : HP} {G : Act → World → Prop} (hk : Next ρ P ops Q n ds F m mask π Φ A F' G) (k : Keep mask Φ H) (h : DW ρ P ops Q n ds F m π rs H Φ A) : J n ds rs (F' :: H) G := hk _ _ k h

theorem D_eff {dst : Option Tmp} (ho : ops[i]? = some ⟨dst, op, ty, ps, af, none⟩)
    (h : ∀ (F' : HP) (Q' : Exit → Act → World → Prop), Next ρ P ops Q n ds F m (m i) π Φ A F' (Q' .normal) →
      (∀ ch rs' H', J n ds [] (F :: H') (Q (.panic ch)) → J n ds rs' (F' :: H') (Q' (.panic ch))) → J n ds rs (F' :: H) (wpListIn (Fc ρ) 0 P ops Q' [⟨dst, op, ty, ps, af, none⟩])) :
    DW ρ P ops Q n ds F m (.eff i :: π) rs H Φ A := ⟨_, ho, .inr ⟨.inl ⟨rfl, rfl⟩, fun F' Q' h1 h2 => h F' Q' h1 h2⟩⟩

theorem D_effon {dst : Option Tmp} {want : Bool} (ho : ops[i]? = some ⟨dst, op, ty, ps, af, some (j, want)⟩) (hj : dstOf ops j = some t) (ht : lookR rs t = some (.bool want))
    (h : ∀ (F' : HP) (Q' : Exit → Act → World → Prop), Next ρ P ops Q n ds F m (m i) π Φ A F' (Q' .normal) →
      (∀ ch rs' H', J n ds [] (F :: H') (Q (.panic ch)) → J n ds rs' (F' :: H') (Q' (.panic ch))) → J n ds rs (F' :: H) (wpListIn (Fc ρ) 0 P ops Q' [⟨dst, op, ty, ps, af, none⟩])) :
    DW ρ P ops Q n ds F m (.eff i :: π) rs H Φ A := ⟨_, ho, .inr ⟨.inr ⟨j, want, t, rfl, hj, by simpa using ht⟩, fun F' Q' h1 h2 => h F' Q' h1 h2⟩⟩

theorem D_effoff {want bb : Bool} (ho : ops[i]? = some ⟨some d, op, ty, ps, af, some (j, want)⟩) (hj : dstOf ops j = some t) (ht : lookR rs t = some (.bool bb)) (hb : bb = !want) (hd : d < n)
    (h : DW ρ P ops Q n ds F m π ((d, undef) :: rs) H Φ A) : DW ρ P ops Q n ds F m (.eff i :: π) rs H Φ A :=
  ⟨_, ho, .inl ⟨.inr ⟨j, want, t, rfl, hj, by subst hb; cases want <;> simpa using ht⟩, d, rfl, hd, h⟩⟩

end
end Go.Ws
