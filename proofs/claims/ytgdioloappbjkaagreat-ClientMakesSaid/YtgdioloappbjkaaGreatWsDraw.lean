/- A region that draws its order, walked in one order that serves them all: what only reads is taken as early as may be, what makes a block as late as may be, what acts in its turn. -/
import Derived.Test.YtgdioloappbjkaaGreatWsCalls
import Derived.Orders
import Derived.OrdersIn
set_option linter.unusedSectionVars false
set_option linter.unusedVariables false
set_option linter.unusedSimpArgs false
namespace Go.Ws

/-- A step of the plan: something quiet; a block that is announced, taken; something that acts. -/
inductive DStep where
  | q (i : Nat) | ann (i : Nat) | take (i : Nat) | eff (i : Nat)

def DStep.work : DStep → Option Nat
  | .q i | .ann i | .eff i => some i
  | .take _ => none

def DStep.waits : DStep → Option Nat
  | .take i | .eff i => some i
  | _ => none

abbrev Facts := List (Nat × (World → Prop))
abbrev Anns := List (Nat × Obj × (Nat → Value))

def lookA : Anns → Nat → Option (Obj × (Nat → Value))
  | [], _ => none
  | (i, p) :: l, j => if i = j then some p else lookA l j

def dstOf (ops : Array Oper) (i : Nat) : Option Tmp := (ops[i]?).bind (·.dst)

def GuardIs (ops : Array Oper) (rs : List (Nat × Value)) (o : Oper) (on : Bool) : Prop :=
  (o.guard = none ∧ on = true) ∨ ∃ j want t, o.guard = some (j, want) ∧ dstOf ops j = some t ∧ lookR rs t = some (.bool (on == want))

/-- The walk of a plan. -/
def DW (ρ : Option Nat) (P : Program) (ops : Array Oper) (Q : Exit → Act → World → Prop) (n : Nat) (ds : List Deferred) (F : HP) (m : Nat → Nat) :
    List DStep → List (Nat × Value) → List HP → Facts → Anns → Prop
  | [], rs, H, _, _ => J n ds rs (F :: H) (Q .normal)
  | .q i :: π, rs, H, Φ, A => ∃ o d v φ, ops[i]? = some o ∧ o.dst = some d ∧ d < n ∧
      ((GuardIs ops rs o true ∧ VOp P n ds rs H φ o.op v) ∨ (GuardIs ops rs o false ∧ v = undef ∧ φ = Tr)) ∧ DW ρ P ops Q n ds F m π ((d, v) :: rs) H ((i, φ) :: Φ) A
  | .ann i :: π, rs, H, Φ, A => ∃ o ob mk, ops[i]? = some o ∧ o.guard = none ∧ (∃ d, o.dst = some d ∧ d < n) ∧ NOp P n ds rs o.op ob mk ∧ DW ρ P ops Q n ds F m π rs H Φ ((i, ob, mk) :: A)
  | .take i :: π, rs, H, Φ, A => ∃ d ob mk, dstOf ops i = some d ∧ d < n ∧ lookA A i = some (ob, mk) ∧ ∀ b, DW ρ P ops Q n ds F m π ((d, mk b) :: rs) (own b ob :: H) Φ A
  | .eff i :: π, rs, H, Φ, A => ∃ o, ops[i]? = some o ∧
      ((GuardIs ops rs o false ∧ ∃ d, o.dst = some d ∧ d < n ∧ DW ρ P ops Q n ds F m π ((d, undef) :: rs) H Φ A) ∨
       (GuardIs ops rs o true ∧ ∀ (F' : HP) (Q' : Exit → Act → World → Prop),
        (∀ rs' H', (∀ p ∈ Φ, (m i).testBit p.1 = false → ∀ w, Sat w (stars H') → p.2 w) → DW ρ P ops Q n ds F m π rs' H' Φ A → J n ds rs' (F' :: H') (Q' .normal)) →
        (∀ ch rs' H', J n ds [] (F :: H') (Q (.panic ch)) → J n ds rs' (F' :: H') (Q' (.panic ch))) →
        J n ds rs (F' :: H) (wpListIn (Fc ρ) 0 P ops Q' [⟨o.dst, o.op, o.type, o.pos, o.after, none⟩])))

/-! ### What a plan must be -/

def unionOf (m : Nat → Nat) (l : List Edge) : Nat := l.foldl (fun s e => if Region.binds .any e then s ||| 2 ^ e.on ||| m e.on else s) 0

structure Plan (ops : Array Oper) (m : Nat → Nat) (π : List DStep) : Prop where
  /-- edges lead back -/
  back : ∀ i o, ops[i]? = some o → ∀ e ∈ o.after, Region.binds .any e = true → e.on < i
  /-- the masks say no more than the edges -/
  mask : ∀ i o, ops[i]? = some o → ∀ j, (m i).testBit j = true → ∃ e ∈ o.after, Region.binds .any e = true ∧ (e.on = j ∨ (m e.on).testBit j = true)
  /-- each is there -/
  all : ∀ i, i < ops.size → i ∈ π.filterMap DStep.work
  /-- once -/
  once : (π.filterMap DStep.work).Nodup
  inside : ∀ i ∈ π.filterMap DStep.work, i < ops.size
  /-- what acts, what is taken: what comes behind waits for it -/
  order : π.Pairwise fun s t => ∀ x y, s.waits = some x → t.work = some y → (m y).testBit x = true
  /-- what an operation looks at is there already, or is written by something that acts, and waits for it -/
  looks : π.Pairwise fun s t => ∀ x y d o, s.work = some x → (t = .q y ∨ t = .eff y ∨ t = .take y) → ops[x]? = some o → dstOf ops y = some d → d ∈ o.looksAt ops → t = .eff y ∧ (m y).testBit x = true
  /-- the temporaries are unlike -/
  dsts : ∀ i j d, dstOf ops i = some d → dstOf ops j = some d → i = j
  noSel : ∀ (i : Nat) (o : Oper) cs b, ops[i]? = some o → o.op ≠ .select cs b
  prod : ∀ x y d o, ops[x]? = some o → dstOf ops y = some d → d ∈ o.looksAt ops → y ≠ x → (m x).testBit y = true ∨ ((m y).testBit x = true ∧ DStep.eff y ∈ π)
  own_ : ∀ i o d, DStep.q i ∈ π ∨ DStep.ann i ∈ π → ops[i]? = some o → o.dst = some d → d ∉ o.looksAt ops
  annFirst : π.Pairwise fun s t => ∀ i, s = .take i → t ≠ .ann i ∧ t ≠ .take i
  annDst : ∀ i, DStep.ann i ∈ π → ∃ d, dstOf ops i = some d
  taken : ∀ i, DStep.ann i ∈ π → DStep.take i ∈ π
  tookAnn : ∀ i, DStep.take i ∈ π → DStep.ann i ∈ π

section
variable {P : Program} {ρ : Option Nat} {ops : Array Oper} {Q : Exit → Act → World → Prop} {n : Nat} {ds : List Deferred} {F : HP} {m : Nat → Nat} {π0 : List DStep}

def Closed (ops : Array Oper) (L : Array Bool) : Prop := ∀ i o, ops[i]? = some o → L.getD i false = true → ∀ e ∈ o.after, Region.binds .any e = true → L.getD e.on false = true

theorem closed_mask (pl : Plan ops m π0) {L : Array Bool} (hL : Closed ops L) : ∀ (i : Nat), (∃ o, ops[i]? = some o ∧ ∀ e ∈ o.after, Region.binds .any e = true → L.getD e.on false = true) →
    ∀ j, (m i).testBit j = true → L.getD j false = true := by
  intro i
  induction i using Nat.strongRecOn with
  | _ i ih =>
    rintro ⟨o, ho, hr⟩ j hj
    obtain ⟨e, he, hb, h⟩ := pl.mask i o ho j hj
    have hl := hr e he hb
    rcases h with h | h
    · exact h ▸ hl
    · have hlt := pl.back i o ho e he hb
      have hoe : ∃ oe, ops[e.on]? = some oe := by
        have : i < ops.size := (Array.getElem?_eq_some_iff.1 ho).1
        exact ⟨_, Array.getElem?_eq_getElem (by omega)⟩
      obtain ⟨oe, hoe⟩ := hoe
      exact ih e.on hlt ⟨oe, hoe, hL e.on oe hoe hl⟩ j h

abbrev Pend := List (Nat × Value × (World → Prop))

def Ev (P : Program) (ops : Array Oper) (a : Act) (i : Nat) (v : Value) (φ : World → Prop) : Prop :=
  ∃ o, ops[i]? = some o ∧ ((Region.wanted o (yielded ops a.tmps) = true ∧ ∀ w, φ w → (execOp a.eval o).run P w = .ok (.value v) w) ∨ (Region.wanted o (yielded ops a.tmps) = false ∧ v = undef))

def EvA (P : Program) (ops : Array Oper) (a : Act) (i : Nat) (ob : Obj) (mk : Nat → Value) : Prop :=
  ∃ o, ops[i]? = some o ∧ Region.wanted o (yielded ops a.tmps) = true ∧ ∀ w, (execOp a.eval o).run P w = .ok (.value (mk w.heap.size)) (w.alloc ob)

def eblk (A : Anns) (e : Nat × Nat) : HP := match lookA A e.1 with
  | some (ob, _) => own e.2 ob
  | none => emp

theorem Ev.put {a : Act} {i : Nat} {v u : Value} {φ : World → Prop} {d : Option Tmp} (pl : Plan ops m π0) (h : Ev P ops a i v φ)
    (hd : ∀ o d', ops[i]? = some o → d = some d' → d' ∉ o.looksAt ops) : Ev P ops (a.put d u) i v φ := by
  obtain ⟨o, ho, h⟩ := h
  have h1 : ∀ d', d = some d' → d' ∉ o.looksAt ops := fun d' e => hd o d' ho e
  refine ⟨o, ho, ?_⟩
  rw [wanted_put o a d u h1, execOp_put o (fun cs b => pl.noSel i o cs b ho) a d u h1]
  exact h

theorem EvA.put {a : Act} {i : Nat} {u : Value} {ob : Obj} {mk : Nat → Value} {d : Option Tmp} (pl : Plan ops m π0) (h : EvA P ops a i ob mk)
    (hd : ∀ o d', ops[i]? = some o → d = some d' → d' ∉ o.looksAt ops) : EvA P ops (a.put d u) i ob mk := by
  obtain ⟨o, ho, h⟩ := h
  have h1 : ∀ d', d = some d' → d' ∉ o.looksAt ops := fun d' e => hd o d' ho e
  refine ⟨o, ho, ?_⟩
  rw [wanted_put o a d u h1, execOp_put o (fun cs b => pl.noSel i o cs b ho) a d u h1]
  exact h

theorem semAt_congr {e e' : Operand → Value} (o : Oper) (hs : ∀ cs b, o.op ≠ .select cs b) (h : ∀ x ∈ o.op.operands, e x = e' x) (r : Option Nat) : Oper.semAt r e o = Oper.semAt r e' o := by
  have he := execOp_congr o hs h
  unfold Oper.semAt
  split
  · rename_i l c ho
    rw [resolve_congr c o.type (fun x hx => h x (by rw [ho]; simpa [Op.operands] using hx))]
  · exact he

/-- An operation sees nothing of temporaries that it does not look at. -/
theorem exec_agree (pl : Plan ops m π0) {o : Oper} {i : Nat} (ho : ops[i]? = some o) {a av : Act} (h : ∀ t ∈ o.looksAt ops, av.tmps[t]? = a.tmps[t]?) :
    execOp av.eval o = execOp a.eval o ∧ Region.wanted o (yielded ops av.tmps) = Region.wanted o (yielded ops a.tmps) ∧ ∀ r, Oper.semAt r av.eval o = Oper.semAt r a.eval o := by
  have hops : ∀ x ∈ o.op.operands, av.eval x = a.eval x := fun x hx => by
    cases x with
    | tmp t =>
      have := h t (List.mem_append_left _ (List.mem_filterMap.2 ⟨.tmp t, by simpa using hx, rfl⟩))
      simp only [Act.eval, Array.getD_eq_getD_getElem?, this]
    | _ => rfl
  refine ⟨execOp_congr o (fun cs b => pl.noSel i o cs b ho) hops, ?_, semAt_congr o (fun cs b => pl.noSel i o cs b ho) hops⟩
  · unfold Region.wanted
    cases hg : o.guard with
    | none => rfl
    | some gw =>
      obtain ⟨g, want⟩ := gw
      have hy : yielded ops av.tmps g = yielded ops a.tmps g := by
        unfold yielded
        cases ht : (ops[g]?).bind (·.dst) with
        | none => rfl
        | some t =>
          have := h t (List.mem_append_right _ (by simp [hg, ht]))
          simp [this]
      simp only [hy]

/-- What an operation does in one frame it does in another one that it can't tell from it. -/
theorem wp_agree {o : Oper} {a av : Act} {w : World} {K K' : Act → World → Prop} {Q' Q'' : Exit → Act → World → Prop} (he : ∀ r, Oper.semAt r av.eval o = Oper.semAt r a.eval o) (hds : av.defers = a.defers)
    (hK : ∀ v x w', K ({ av with defers := x }.put o.dst v) w' → K' ({ a with defers := x }.put o.dst v) w') (hp : ∀ ch w', Q' (.panic ch) av w' → Q'' (.panic ch) a w') (ho : ¬ LetsOut Q')
    (h : o.wpIn (Fc ρ) 0 P av w K Q') : o.wpIn (Fc ρ) 0 P a w K' Q'' := by
  refine ⟨fun _ _ => trivial, ?_⟩
  have h := h.2
  rw [he] at h
  have hK0 : ∀ v w', K (av.put o.dst v) w' → K' (a.put o.dst v) w' := fun v w' q => by
    have := hK v av.defers w' q
    rw [hds] at this
    exact this
  generalize (Oper.semAt (Fc ρ).round a.eval o).run P w = r at h
  cases r with
  | ok nx w' =>
    cases nx <;> simp only [Oper.uponIn] at h ⊢
    case value v => exact hK0 _ _ h
    case skip => exact hK0 _ _ h
    case defer x => rw [← hds]; exact hK _ _ _ h
    case enter f args =>
      refine ⟨h.1, h.2.mono fun e w'' q => ?_⟩
      cases e with
      | returned v => exact hK0 _ _ q
      | panicked ch => exact hp _ _ q
      | outgrown => exact absurd q ho
    case row row args => exact ⟨h.1, h.2.mono fun v w'' q => hK0 _ _ q⟩
    case round =>
      refine ⟨h.1, h.2.mono fun e w'' q => ?_⟩
      cases e with
      | returned v => exact hK0 _ _ q
      | panicked ch => exact hp _ _ q
      | outgrown => exact absurd q ho
  | halt x w' =>
    cases x <;> simp only [Oper.uponIn] at h ⊢
    exact hp _ _ h

/-- How a run and the walk of the plan stand to each other. -/
structure Inv (ρ : Option Nat) (P : Program) (ops : Array Oper) (Q : Exit → Act → World → Prop) (n : Nat) (ds : List Deferred) (F : HP) (m : Nat → Nat) (π0 : List DStep)
    (L : Array Bool) (a : Act) (w : World) (av : Act) (pre π : List DStep) (pend : Pend) (ann : List Nat) (early : List (Nat × Nat)) (rs : List (Nat × Value)) (H : List HP) (Φ : Facts) (A : Anns) : Prop where
  dw : DW ρ P ops Q n ds F m π rs H Φ A
  split : π0 = pre ++ π
  regs : Regs n ds rs av
  asize : a.tmps.size = n
  adef : a.defers = ds
  same : ∀ t, (∀ p ∈ pend, dstOf ops p.1 ≠ some t) → (∀ e ∈ early, dstOf ops e.1 ≠ some t) → av.tmps[t]? = a.tmps[t]?
  has : ∀ p ∈ pend, ∀ d, dstOf ops p.1 = some d → av.tmps[d]? = some p.2.1
  size : L.size = ops.size
  listed : ∀ i, i < ops.size → (L.getD i false = false ↔ i ∈ π.filterMap DStep.work ∨ i ∈ pend.map (·.1) ∨ i ∈ ann)
  nodup : (π.filterMap DStep.work ++ (pend.map (·.1) ++ ann)).Nodup
  closed : Closed ops L
  ev : ∀ p ∈ pend, Ev P ops av p.1 p.2.1 p.2.2 ∧ (∀ w, Sat w (stars H) → p.2.2 w) ∧ (p.1, p.2.2) ∈ Φ ∧ (∃ d, dstOf ops p.1 = some d) ∧ DStep.q p.1 ∈ pre
  eva : ∀ i ∈ ann, DStep.ann i ∈ pre ∧ DStep.take i ∈ π ∧ ∃ ob mk, lookA A i = some (ob, mk) ∧ EvA P ops av i ob mk ∧ ∃ d, dstOf ops i = some d ∧ d < n
  evE : ∀ e ∈ early, DStep.ann e.1 ∈ pre ∧ DStep.take e.1 ∈ π ∧ L.getD e.1 false = true ∧ ∃ d ob mk, dstOf ops e.1 = some d ∧ lookA A e.1 = some (ob, mk) ∧ a.tmps[d]? = some (mk e.2)
  takes : ∀ i, DStep.take i ∈ π → DStep.ann i ∈ π ∨ i ∈ ann ∨ i ∈ early.map (·.1)
  once : (early.map (·.1)).Nodup
  sat : Sat w (stars (F :: (early.map (eblk A) ++ H)))

theorem mem_work {π : List DStep} {s : DStep} {i : Nat} (h : s ∈ π) (e : s.work = some i) : i ∈ π.filterMap DStep.work := List.mem_filterMap.2 ⟨s, h, e⟩

theorem sat_drop {w : World} {H : List HP} : ∀ {E : List HP}, Sat w (stars (E ++ H)) → Sat w (stars H)
  | [], s => s
  | _ :: _, s => sat_drop (s.ent .drop)

theorem guard_at {rs : List (Nat × Value)} {o : Oper} {a : Act} {on : Bool} (r : Regs n ds rs a) (h : GuardIs ops rs o on) : Region.wanted o (yielded ops a.tmps) = on := by
  rcases h with ⟨h, e⟩ | ⟨j, want, t, h, hj, ht⟩
  · simp [Region.wanted, h, e]
  · have ht' := r.at_ t _ ht
    simp only [Region.wanted, h, yielded]
    unfold dstOf at hj
    cases hoj : ops[j]? with
    | none => simp [hoj] at hj
    | some oj =>
      simp only [hoj, Option.bind_some] at hj ⊢
      cases on <;> cases want <;> simp_all


theorem Regs.know {rs : List (Nat × Value)} {a : Act} {d : Nat} {v : Value} (r : Regs n ds rs a) (h : a.tmps[d]? = some v) : Regs n ds ((d, v) :: rs) a := by
  refine ⟨r.size, r.defers, fun t' v' e => ?_⟩
  simp only [lookR] at e
  cases hb : Nat.beq d t' with
  | true =>
    rw [hb] at e
    have := Nat.eq_of_beq_eq_true hb
    subst this
    simp at e
    rw [h, e]
  | false => rw [hb] at e; exact r.at_ _ _ e

variable {L : Array Bool} {a av : Act} {w : World} {pre π : List DStep} {pend : Pend} {ann : List Nat} {early : List (Nat × Nat)} {rs : List (Nat × Value)} {H : List HP} {Φ : Facts} {A : Anns}

theorem Inv.mem (v : Inv ρ P ops Q n ds F m π0 L a w av pre π pend ann early rs H Φ A) {s : DStep} (h : s ∈ pre ∨ s ∈ π) : s ∈ π0 := by
  rw [v.split]; exact List.mem_append.2 h

theorem work_apart (pl : Plan ops m π0) (hs : π0 = pre ++ π) {s t : DStep} {i : Nat} (h1 : s ∈ pre) (h2 : t ∈ π) (e1 : s.work = some i) (e2 : t.work = some i) : False := by
  have := pl.once
  rw [hs, List.filterMap_append, List.nodup_append] at this
  exact this.2.2 _ (mem_work h1 e1) _ (mem_work h2 e2) rfl

theorem pair_of {R : DStep → DStep → Prop} (h : π0.Pairwise R) (hs : π0 = pre ++ π) {s t : DStep} (h1 : s ∈ pre) (h2 : t ∈ π) : R s t := by
  rw [hs, List.pairwise_append] at h
  exact h.2.2 s h1 t h2

/-- A quiet step of the plan. -/
theorem Inv.adv_q (pl : Plan ops m π0) {i : Nat} (v : Inv ρ P ops Q n ds F m π0 L a w av pre (.q i :: π) pend ann early rs H Φ A) :
    ∃ u φ rs' Φ' av', Inv ρ P ops Q n ds F m π0 L a w av' (pre ++ [.q i]) π ((i, u, φ) :: pend) ann early rs' H Φ' A := by
  obtain ⟨o, d, u, φ, ho, hd, hdn, hq, hdw⟩ := v.dw
  have hdst : dstOf ops i = some d := by simp [dstOf, ho, hd]
  have hin : DStep.q i ∈ π0 := v.mem (.inr (by simp))
  have hpre : ∀ s ∈ pre, ∀ x o', s.work = some x → ops[x]? = some o' → d ∉ o'.looksAt ops := fun s hs x o' hw ho' hl => by
    have := (pair_of pl.looks v.split hs (List.mem_cons_self ..)) x i d o' hw (.inl rfl) ho' hdst hl
    cases this.1
  have hself : d ∉ o.looksAt ops := pl.own_ i o d (.inl hin) ho hd
  have hnod := v.nodup
  have hfresh : ∀ p ∈ pend, ∀ d', dstOf ops p.1 = some d' → d ≠ d' := fun p hp d' hd' e => by
    subst e
    have h1 := pl.dsts p.1 i d hd' hdst
    exact work_apart pl v.split (v.ev p hp).2.2.2.2 (List.mem_cons_self ..) (i := p.1) rfl (by rw [h1]; rfl)
  refine ⟨u, φ, (d, u) :: rs, (i, φ) :: Φ, av.put (some d) u, ?_⟩
  constructor
  case dw => exact hdw
  case split => rw [v.split]; simp
  case regs => exact v.regs.put hdn u
  case asize => exact v.asize
  case adef => exact v.adef
  case same =>
    intro t h1 h2
    have hne : d ≠ t := fun e => h1 _ (List.mem_cons_self ..) (e ▸ hdst)
    simp only [Act.put, Array.getElem?_setIfInBounds_ne hne]
    exact v.same t (fun p hp => h1 p (by simp [hp])) h2
  case has =>
    intro p hp d' hd'
    rcases List.mem_cons.1 hp with rfl | hp
    · rw [hdst] at hd'; cases hd'
      simp [Act.put, v.regs.size, hdn]
    · simp only [Act.put, Array.getElem?_setIfInBounds_ne (hfresh p hp d' hd')]
      exact v.has p hp d' hd'
  case size => exact v.size
  case listed =>
    intro j hj
    rw [v.listed j hj]
    simp only [List.filterMap_cons, DStep.work, List.mem_cons, List.map_cons]
    constructor
    · rintro ((h | h) | h | h) <;> simp [h]
    · rintro (h | (h | h) | h) <;> simp [h]
  case nodup =>
    simp only [List.filterMap_cons, DStep.work, List.cons_append, List.map_cons] at hnod ⊢
    have h1 := List.nodup_cons.1 hnod
    refine (List.perm_middle.nodup_iff).2 ?_
    exact hnod
  case closed => exact v.closed
  case ev =>
    intro p hp
    rcases List.mem_cons.1 hp with rfl | hp
    · refine ⟨?_, ?_, by simp, ⟨d, hdst⟩, by simp⟩
      · show Ev P ops (av.put (some d) u) i u φ
        refine Ev.put pl ?_ (fun o' d' ho' e => ?_)
        · rcases hq with ⟨hg, hv⟩ | ⟨hg, hu, hf⟩
          · exact ⟨o, ho, .inl ⟨guard_at v.regs hg, fun w hw => hv.2 o rfl _ w v.regs hw⟩⟩
          · exact ⟨o, ho, .inr ⟨guard_at v.regs hg, hu⟩⟩
        · cases e; rw [ho] at ho'; cases ho'; exact hself
      · intro w hw
        rcases hq with ⟨hg, hv⟩ | ⟨hg, hu, hf⟩
        · exact hv.1 w hw
        · show φ w; rw [hf]; trivial
    · obtain ⟨h1, h2, h3, h4, h5⟩ := v.ev p hp
      refine ⟨?_, h2, by simp [h3], h4, by simp [h5]⟩
      exact Ev.put pl h1 (fun o' d' ho' e => by cases e; exact hpre _ h5 p.1 o' rfl ho')
  case eva =>
    intro j hj
    obtain ⟨h1, h2, ob, mk, h3, h4, h5⟩ := v.eva j hj
    refine ⟨by simp [h1], by simpa using h2, ob, mk, h3, ?_, h5⟩
    exact EvA.put pl h4 (fun o' d' ho' e => by cases e; exact hpre _ h1 j o' rfl ho')
  case evE =>
    intro e he
    obtain ⟨h1, h2, h3, d', ob, mk, h4, h5, h6⟩ := v.evE e he
    refine ⟨by simp [h1], by simpa using h2, h3, d', ob, mk, h4, h5, h6⟩
  case takes =>
    intro j hj
    have := v.takes j (by simp [hj])
    simpa using this
  case once => exact v.once
  case sat => exact v.sat


theorem eblk_cons {i : Nat} {ob : Obj} {mk : Nat → Value} {A : Anns} {e : Nat × Nat} (h : e.1 ≠ i) : eblk ((i, ob, mk) :: A) e = eblk A e := by
  have : lookA ((i, ob, mk) :: A) e.1 = lookA A e.1 := by rw [lookA, if_neg (Ne.symm h)]
  simp only [eblk, this]

/-- A block is announced. -/
theorem Inv.adv_ann (pl : Plan ops m π0) {i : Nat} (v : Inv ρ P ops Q n ds F m π0 L a w av pre (.ann i :: π) pend ann early rs H Φ A) :
    ∃ A', Inv ρ P ops Q n ds F m π0 L a w av (pre ++ [.ann i]) π pend (i :: ann) early rs H Φ A' := by
  obtain ⟨o, ob, mk, ho, hg, ⟨d, hd, hdn⟩, hn, hdw⟩ := v.dw
  have hin : DStep.ann i ∈ π0 := v.mem (.inr (by simp))
  have hnod := v.nodup
  simp only [List.filterMap_cons, DStep.work, List.cons_append] at hnod
  have hnew := (List.nodup_cons.1 hnod).1
  simp only [List.mem_append, not_or] at hnew
  have hE : ∀ e ∈ early, e.1 ≠ i := fun e he h => by
    obtain ⟨h1, _⟩ := v.evE e he
    exact work_apart pl v.split h1 (List.mem_cons_self ..) (i := e.1) rfl (by rw [h]; rfl)
  have htake : DStep.take i ∈ π := by
    have h1 := pl.taken i hin
    rw [v.split, List.mem_append, List.mem_cons] at h1
    rcases h1 with h1 | h1 | h1
    · exact absurd rfl ((pair_of pl.annFirst v.split h1 (List.mem_cons_self ..)) i rfl).1
    · cases h1
    · exact h1
  refine ⟨(i, ob, mk) :: A, ?_⟩
  constructor
  case dw => exact hdw
  case split => rw [v.split]; simp
  case regs => exact v.regs
  case asize => exact v.asize
  case adef => exact v.adef
  case same => exact v.same
  case has => exact v.has
  case size => exact v.size
  case listed =>
    intro j hj
    rw [v.listed j hj]
    simp only [List.filterMap_cons, DStep.work, List.mem_cons]
    constructor
    · rintro ((h | h) | h | h) <;> simp [h]
    · rintro (h | h | h | h) <;> simp [h]
  case nodup =>
    have h1 : (i :: (List.filterMap DStep.work π ++ (List.map (fun x => x.1) pend ++ ann))).Perm (List.filterMap DStep.work π ++ (List.map (fun x => x.1) pend ++ i :: ann)) := by
      refine .trans ?_ (List.Perm.append_left _ List.perm_middle.symm)
      exact List.perm_middle.symm
    exact h1.nodup_iff.1 hnod
  case closed => exact v.closed
  case ev =>
    intro p hp
    obtain ⟨h1, h2, h3, h4, h5⟩ := v.ev p hp
    exact ⟨h1, h2, h3, h4, by simp [h5]⟩
  case eva =>
    intro j hj
    rcases List.mem_cons.1 hj with rfl | hj
    · refine ⟨by simp, htake, ob, mk, by simp [lookA], ⟨o, ho, by simp [Region.wanted, hg], fun w => hn o rfl _ w v.regs⟩, d, by simp [dstOf, ho, hd], hdn⟩
    · obtain ⟨h1, h2, ob', mk', h3, h4⟩ := v.eva j hj
      have hne : j ≠ i := fun e => hnew.2.2 (e ▸ hj)
      refine ⟨by simp [h1], ?_, ob', mk', by rw [lookA, if_neg (Ne.symm hne)]; exact h3, h4⟩
      simpa using h2
  case evE =>
    intro e he
    obtain ⟨h1, h2, h3, d', ob', mk', h4, h5, h6⟩ := v.evE e he
    exact ⟨by simp [h1], by simpa using h2, h3, d', ob', mk', h4, by rw [lookA, if_neg (Ne.symm (hE e he))]; exact h5, h6⟩
  case takes =>
    intro j hj
    have := v.takes j (by simp [hj])
    rcases this with h | h | h
    · rcases List.mem_cons.1 h with h | h
      · cases h; exact .inr (.inl (by simp))
      · exact .inl h
    · exact .inr (.inl (by simp [h]))
    · exact .inr (.inr h)
  case once => exact v.once
  case sat =>
    have : early.map (eblk ((i, ob, mk) :: A)) = early.map (eblk A) := List.map_congr_left fun e he => eblk_cons (hE e he)
    rw [this]; exact v.sat

theorem stars_mid {p : HP} {l1 l2 : List HP} {h : Hl} (x : stars (l1 ++ p :: l2) h) : stars (p :: (l1 ++ l2)) h := by
  induction l1 generalizing h with
  | nil => exact x
  | cons q l1 ih => exact sep_left (sep_mono (fun _ x => x) (fun _ y => ih y) x)

theorem stars_back {p : HP} {l1 l2 : List HP} {h : Hl} (x : stars (p :: (l1 ++ l2)) h) : stars (l1 ++ p :: l2) h := by
  induction l1 generalizing h with
  | nil => exact x
  | cons q l1 ih => exact sep_mono (fun _ x => x) (fun _ y => ih y) (sep_left x)

/-- A block that is there already is taken. -/
theorem Inv.adv_take (pl : Plan ops m π0) {i : Nat} (v : Inv ρ P ops Q n ds F m π0 L a w av pre (.take i :: π) pend ann early rs H Φ A) (hi : i ∈ early.map (·.1)) :
    ∃ early' rs' H' av', Inv ρ P ops Q n ds F m π0 L a w av' (pre ++ [.take i]) π pend ann early' rs' H' Φ A := by
  obtain ⟨d, ob, mk, hd, hdn, hA, hdw⟩ := v.dw
  obtain ⟨⟨i', b⟩, he, rfl⟩ := List.mem_map.1 hi
  obtain ⟨e1, e2, rfl⟩ := List.append_of_mem he
  obtain ⟨h1, h2, h3, d', ob', mk', h4, h5, h6⟩ := v.evE _ he
  simp only at *
  rw [hd] at h4; cases h4
  rw [hA] at h5; cases h5
  have hno : ∀ e ∈ e1 ++ e2, e.1 ≠ i' := fun e hm h => by
    have := v.once
    rw [List.map_append, List.map_cons] at this
    have := (List.perm_middle.nodup_iff).1 this
    have := (List.nodup_cons.1 this).1
    rw [← List.map_append] at this
    exact this (List.mem_map.2 ⟨e, hm, h⟩)
  have hmem : ∀ e ∈ e1 ++ e2, e ∈ e1 ++ (i', b) :: e2 := fun e hm => by
    rcases List.mem_append.1 hm with h | h <;> simp [h]
  have hfresh : ∀ s ∈ pre, ∀ x d', s.work = some x → x ≠ i' → dstOf ops x = some d' → d ≠ d' := fun s _ x d' _ hx hd' e => by
    subst e
    exact hx (pl.dsts x i' d hd' hd)
  have hpend : ∀ p ∈ pend, p.1 ≠ i' := fun p hp e => by
    have h7 := (v.ev p hp).2.2.2.2
    have hl := (v.listed p.1 (pl.inside p.1 (mem_work (v.mem (.inl h7)) rfl))).2 (.inr (.inl (List.mem_map.2 ⟨p, hp, rfl⟩)))
    rw [e] at hl
    have h8 : L.getD i' false = true := h3
    rw [h8] at hl; cases hl
  have hlook : ∀ s ∈ pre, ∀ x o', s.work = some x → ops[x]? = some o' → d ∉ o'.looksAt ops := fun s hs x o' hw ho' hl => by
    have := (pair_of pl.looks v.split hs (List.mem_cons_self ..)) x i' d o' hw (.inr (.inr rfl)) ho' hd hl
    cases this.1
  refine ⟨e1 ++ e2, (d, mk b) :: rs, own b ob :: H, av.put (some d) (mk b), ?_⟩
  constructor
  case dw => exact hdw b
  case split => rw [v.split]; simp
  case regs => exact v.regs.put hdn _
  case asize => exact v.asize
  case adef => exact v.adef
  case same =>
    intro t g1 g2
    by_cases e : d = t
    · subst e
      rw [h6]
      simp [Act.put, v.regs.size, hdn]
    · simp only [Act.put, Array.getElem?_setIfInBounds_ne e]
      refine v.same t g1 (fun x hx => ?_)
      simp only [List.mem_append, List.mem_cons] at hx
      rcases hx with hx | rfl | hx
      · exact g2 x (by simp [hx])
      · rw [hd]; exact fun h => e (by cases h; rfl)
      · exact g2 x (by simp [hx])
  case has =>
    intro p hp d' hd'
    have hne : d ≠ d' := fun e => by subst e; exact hpend p hp (pl.dsts p.1 i' d hd' hd)
    simp only [Act.put, Array.getElem?_setIfInBounds_ne hne]
    exact v.has p hp d' hd'
  case size => exact v.size
  case listed =>
    intro j hj
    rw [v.listed j hj]
    simp [DStep.work]
  case nodup => have := v.nodup; simpa only [List.filterMap_cons, DStep.work] using this
  case closed => exact v.closed
  case ev =>
    intro p hp
    obtain ⟨g1, g2, g3, g4, g5⟩ := v.ev p hp
    exact ⟨Ev.put pl g1 (fun o' d' ho' e => by cases e; exact hlook _ g5 p.1 o' rfl ho'), fun w hw => g2 w (hw.ent .drop), g3, g4, by simp [g5]⟩
  case eva =>
    intro j hj
    obtain ⟨g1, g2, ob', mk', g3, g4, g5⟩ := v.eva j hj
    refine ⟨by simp [g1], ?_, ob', mk', g3, EvA.put pl g4 (fun o' d' ho' e => by cases e; exact hlook _ g1 j o' rfl ho'), g5⟩
    rcases List.mem_cons.1 g2 with h | h
    · cases h
      -- announced and there already: it would be listed and not
      have hl := (v.listed i' (pl.inside i' (mem_work (v.mem (.inl h1)) rfl))).2 (.inr (.inr hj))
      have : L.getD i' false = true := h3
      rw [this] at hl; cases hl
    · exact h
  case evE =>
    intro e hm
    obtain ⟨g1, g2, g3, d', ob', mk', g4, g5, g6⟩ := v.evE e (hmem e hm)
    refine ⟨by simp [g1], ?_, g3, d', ob', mk', g4, g5, g6⟩
    rcases List.mem_cons.1 g2 with h | h
    · cases h; exact absurd rfl (hno e hm)
    · exact h
  case takes =>
    intro j hj
    have hne : j ≠ i' := fun e => by
      subst e
      have hw := pl.annFirst
      rw [v.split, List.pairwise_append] at hw
      exact absurd rfl (((List.pairwise_cons.1 hw.2.1).1 _ hj) j rfl).2
    have := v.takes j (by simp [hj])
    rcases this with h | h | h
    · rcases List.mem_cons.1 h with h | h
      · cases h
      · exact .inl h
    · exact .inr (.inl h)
    · refine .inr (.inr ?_)
      simp only [List.map_append, List.map_cons, List.mem_append, List.mem_cons] at h ⊢
      rcases h with h | h | h
      · exact .inl h
      · exact absurd h hne
      · exact .inr h
  case once =>
    have := v.once
    rw [List.map_append, List.map_cons] at this
    have := (List.nodup_cons.1 ((List.perm_middle.nodup_iff).1 this)).2
    rwa [← List.map_append] at this
  case sat =>
    have hb : eblk A (i', b) = own b ob := by simp [eblk, hA]
    refine v.sat.imp fun h x => ?_
    refine sep_mono (fun _ x => x) (fun _ y => ?_) x
    rw [List.map_append, List.map_cons, hb, List.append_assoc, List.cons_append] at y
    rw [List.map_append]
    refine stars_back ?_
    rw [List.append_assoc]
    exact stars_mid y


theorem Inv.unlisted (pl : Plan ops m π0) (v : Inv ρ P ops Q n ds F m π0 L a w av pre π pend ann early rs H Φ A) {i : Nat} (h : i ∈ π.filterMap DStep.work ∨ i ∈ pend.map (·.1) ∨ i ∈ ann) : L.getD i false = false := by
  refine (v.listed i ?_).2 h
  rcases h with h | h | h
  · exact pl.inside i (by rw [v.split, List.filterMap_append]; exact List.mem_append.2 (.inr h))
  · obtain ⟨p, hp, rfl⟩ := List.mem_map.1 h
    exact pl.inside _ (mem_work (v.mem (.inl (v.ev p hp).2.2.2.2)) rfl)
  · exact pl.inside _ (mem_work (v.mem (.inl (v.eva i h).1)) rfl)

/-- What may come up now is reached in the plan. -/
theorem Inv.reach (pl : Plan ops m π0) {y : Nat} (hL : ∀ j, (m y).testBit j = true → L.getD j false = true) (hy : L.getD y false = false) (hlt : y < ops.size) :
    ∀ (π : List DStep) (pre : List DStep) (pend : Pend) (ann : List Nat) (early : List (Nat × Nat)) (rs : List (Nat × Value)) (H : List HP) (Φ : Facts) (A : Anns) (av : Act),
      Inv ρ P ops Q n ds F m π0 L a w av pre π pend ann early rs H Φ A →
      ∃ pre' π' pend' ann' early' rs' H' Φ' A' av', Inv ρ P ops Q n ds F m π0 L a w av' pre' π' pend' ann' early' rs' H' Φ' A' ∧
        ((∃ π'', π' = .eff y :: π'') ∨ y ∈ pend'.map (·.1) ∨ y ∈ ann')
  | [], pre, pend, ann, early, rs, H, Φ, A, av, v => by
    refine ⟨pre, [], pend, ann, early, rs, H, Φ, A, av, v, ?_⟩
    have := (v.listed y hlt).1 hy
    simpa using this
  | s :: π, pre, pend, ann, early, rs, H, Φ, A, av, v => by
    by_cases hdone : y ∈ pend.map (·.1) ∨ y ∈ ann
    · exact ⟨pre, _, pend, ann, early, rs, H, Φ, A, av, v, .inr hdone⟩
    · have hin : y ∈ (s :: π).filterMap DStep.work := ((v.listed y hlt).1 hy).resolve_right hdone
      have hwait : ∀ x, s.waits = some x → s.work ≠ some y → (m y).testBit x = true := fun x hx hne => by
        have h1 := pl.order
        rw [v.split, List.pairwise_append] at h1
        obtain ⟨t, ht, htw⟩ := List.mem_filterMap.1 hin
        rcases List.mem_cons.1 ht with rfl | ht
        · exact absurd htw hne
        · exact ((List.pairwise_cons.1 h1.2.1).1 t ht) x y hx htw
      cases s with
      | q i =>
        obtain ⟨u, φ, rs', Φ', av', v'⟩ := v.adv_q pl
        exact reach pl hL hy hlt π _ _ _ _ _ _ _ _ _ v'
      | ann i =>
        obtain ⟨A', v'⟩ := v.adv_ann pl
        exact reach pl hL hy hlt π _ _ _ _ _ _ _ _ _ v'
      | take i =>
        have hli := hL i (hwait i rfl (by simp [DStep.work]))
        have hi : i ∈ early.map (·.1) := by
          rcases v.takes i (by simp) with h | h | h
          · have := v.unlisted pl (i := i) (.inl (mem_work h rfl))
            rw [hli] at this; cases this
          · have := v.unlisted pl (i := i) (.inr (.inr h))
            rw [hli] at this; cases this
          · exact h
        obtain ⟨early', rs', H', av', v'⟩ := v.adv_take pl hi
        exact reach pl hL hy hlt π _ _ _ _ _ _ _ _ _ v'
      | eff i =>
        by_cases e : i = y
        · subst e
          exact ⟨pre, _, pend, ann, early, rs, H, Φ, A, av, v, .inl ⟨π, rfl⟩⟩
        · have hli := hL i (hwait i rfl (by simpa [DStep.work] using e))
          have := v.unlisted pl (i := i) (.inl (by simp [DStep.work]))
          rw [hli] at this; cases this

/-- All is done. -/
theorem Inv.finish (pl : Plan ops m π0) (hall : ∀ i, i < ops.size → L.getD i false = true) : ∀ (π : List DStep) (pre : List DStep) (early : List (Nat × Nat)) (rs : List (Nat × Value)) (H : List HP) (av : Act),
    Inv ρ P ops Q n ds F m π0 L a w av pre π pend ann early rs H Φ A → Q .normal a w
  | [], pre, early, rs, H, av, v => by
    have hp : pend = [] := by
      cases pend with
      | nil => rfl
      | cons p l =>
        have h1 := v.unlisted pl (i := p.1) (.inr (.inl (by simp)))
        have h2 := hall p.1 (pl.inside _ (mem_work (v.mem (.inl (v.ev p (by simp)).2.2.2.2)) rfl))
        rw [h2] at h1; cases h1
    have he : early = [] := by
      cases early with
      | nil => rfl
      | cons e l => have := (v.evE e (by simp)).2.1; cases this
    subst hp; subst he
    have hr : Regs n ds rs a := ⟨v.asize, v.adef, fun t u h => by rw [← v.same t (by simp) (by simp)]; exact v.regs.at_ t u h⟩
    exact v.dw a w hr v.sat
  | s :: π, pre, early, rs, H, av, v => by
    have hno : ∀ y, s.work = some y → False := fun y hy => by
      have h1 := v.unlisted pl (i := y) (.inl (by simp [hy]))
      have h2 := hall y (pl.inside y (mem_work (v.mem (.inr (by simp))) hy))
      rw [h2] at h1; cases h1
    cases s with
    | q i => exact (hno i rfl).elim
    | ann i => exact (hno i rfl).elim
    | eff i => exact (hno i rfl).elim
    | take i =>
      have hin : i < ops.size := by
        have : DStep.ann i ∈ π0 ∨ True := .inr trivial
        rcases v.takes i (by simp) with h | h | h
        · exact pl.inside i (mem_work (v.mem (.inr h)) rfl)
        · exact pl.inside i (mem_work (v.mem (.inl (v.eva i h).1)) rfl)
        · obtain ⟨e, he, rfl⟩ := List.mem_map.1 h
          exact pl.inside _ (mem_work (v.mem (.inl (v.evE e he).1)) rfl)
      have hi : i ∈ early.map (·.1) := by
        rcases v.takes i (by simp) with h | h | h
        · have := v.unlisted pl (i := i) (.inl (mem_work h rfl))
          rw [hall i hin] at this; cases this
        · have := v.unlisted pl (i := i) (.inr (.inr h))
          rw [hall i hin] at this; cases this
        · exact h
      obtain ⟨early', rs', H', av', v'⟩ := v.adv_take pl hi
      exact finish pl hall π _ _ _ _ _ v'


theorem work_inj (pl : Plan ops m π0) {s t : DStep} (h1 : s ∈ π0) (h2 : t ∈ π0) {i : Nat} (e1 : s.work = some i) (e2 : t.work = some i) : s = t := by
  have key : ∀ l : List DStep, (l.filterMap DStep.work).Nodup → s ∈ l → t ∈ l → s = t := by
    intro l
    induction l with
    | nil => intro _ h; cases h
    | cons x l ih =>
      intro hn h1 h2
      have hn' : (l.filterMap DStep.work).Nodup := by
        cases hx : x.work with
        | none => simpa [List.filterMap_cons, hx] using hn
        | some y => rw [List.filterMap_cons, hx] at hn; exact (List.nodup_cons.1 hn).2
      rcases List.mem_cons.1 h1 with h3 | h3 <;> rcases List.mem_cons.1 h2 with h4 | h4
      · rw [h3, h4]
      · have hn2 : (i :: l.filterMap DStep.work).Nodup := by rw [← h3, List.filterMap_cons, e1] at hn; exact hn
        exact absurd (mem_work h4 e2) (List.nodup_cons.1 hn2).1
      · have hn2 : (i :: l.filterMap DStep.work).Nodup := by rw [← h4, List.filterMap_cons, e2] at hn; exact hn
        exact absurd (mem_work h3 e1) (List.nodup_cons.1 hn2).1
      · exact ih hn' h3 h4
  exact key π0 pl.once h1 h2

/-- What may come up looks at nothing that is pending, or there too early. -/
theorem Inv.clear (pl : Plan ops m π0) (v : Inv ρ P ops Q n ds F m π0 L a w av pre π pend ann early rs H Φ A) {y : Nat} {o : Oper} (ho : ops[y]? = some o)
    (hL : ∀ j, (m y).testBit j = true → L.getD j false = true) (hE : ∀ e ∈ early, ∀ d, dstOf ops e.1 = some d → d ∉ o.looksAt ops) :
    ∀ t ∈ o.looksAt ops, av.tmps[t]? = a.tmps[t]? := by
  intro t ht
  refine v.same t (fun p hp hd => ?_) (fun e he hd => ?_)
  · obtain ⟨_, _, _, _, hq⟩ := v.ev p hp
    have hun := v.unlisted pl (i := p.1) (.inr (.inl (List.mem_map.2 ⟨p, hp, rfl⟩)))
    have hq0 : DStep.q p.1 ∈ π0 := v.mem (.inl hq)
    by_cases e : p.1 = y
    · rw [e] at hq0 hd
      have hod : o.dst = some t := by simpa [dstOf, ho] using hd
      exact pl.own_ y o t (.inl hq0) ho hod ht
    · rcases pl.prod y p.1 t o ho hd ht e with h | ⟨_, h⟩
      · rw [hL _ h] at hun; cases hun
      · have := work_inj pl hq0 h (i := p.1) rfl rfl
        cases this
  · exact hE e he t hd ht

theorem getD_set {y j : Nat} (hy : y < L.size) : (L.setIfInBounds y true).getD j false = if j = y then true else L.getD j false := by
  by_cases e : j = y
  · subst e; simp [hy]
  · rw [if_neg e]; exact getD_set_ne false (Ne.symm e)

theorem closed_set (hc : Closed ops L) {y : Nat} (hy : y < L.size) (hr : ∀ o, ops[y]? = some o → ∀ e ∈ o.after, Region.binds .any e = true → L.getD e.on false = true) : Closed ops (L.setIfInBounds y true) := by
  intro i o ho hi e he hb
  rw [getD_set hy] at hi ⊢
  by_cases e1 : e.on = y
  · rw [if_pos e1]
  · rw [if_neg e1]
    by_cases e2 : i = y
    · subst e2; exact hr o ho e he hb
    · rw [if_neg e2] at hi; exact hc i o ho hi e he hb


theorem early_looks (pl : Plan ops m π0) (v : Inv ρ P ops Q n ds F m π0 L a w av pre π pend ann early rs H Φ A) {s : DStep} {y : Nat} {o : Oper} (ho : ops[y]? = some o) (hs : s ∈ pre) (hw : s.work = some y) :
    ∀ e ∈ early, ∀ d, dstOf ops e.1 = some d → d ∉ o.looksAt ops := fun e he d hd hl => by
  have := (pair_of pl.looks v.split hs (v.evE e he).2.1) y e.1 d o hw (.inr (.inr rfl)) ho hd hl
  cases this.1

theorem early_looks_head (pl : Plan ops m π0) {y : Nat} (v : Inv ρ P ops Q n ds F m π0 L a w av pre (.eff y :: π) pend ann early rs H Φ A) {o : Oper} (ho : ops[y]? = some o) :
    ∀ e ∈ early, ∀ d, dstOf ops e.1 = some d → d ∉ o.looksAt ops := fun e he d hd hl => by
  have h1 := pl.looks
  rw [v.split, List.pairwise_append] at h1
  rcases List.mem_cons.1 (v.evE e he).2.1 with h | h
  · cases h
  · have := ((List.pairwise_cons.1 h1.2.1).1 _ h) y e.1 d o rfl (.inr (.inr rfl)) ho hd hl
    cases this.1

theorem wp_saying {o : Oper} {K : Act → World → Prop} {Q' : Exit → Act → World → Prop} (h : o.wpIn (Fc ρ) 0 P a w K Q') : o.wpIn (Fc ρ) 0 P a w (fun a' w' => K a' w' ∧ ∃ v x, a' = ({ a with defers := x } : Act).put o.dst v) Q' := by
  refine ⟨fun _ _ => trivial, ?_⟩
  have h := h.2
  generalize (Oper.semAt (Fc ρ).round a.eval o).run P w = r at h
  cases r with
  | ok nx w' =>
    cases nx <;> simp only [Oper.uponIn] at h ⊢
    case value v => exact ⟨h, v, a.defers, rfl⟩
    case skip => exact ⟨h, undef, a.defers, rfl⟩
    case defer x => exact ⟨h, undef, _, rfl⟩
    case enter f args =>
      refine ⟨h.1, h.2.mono fun e w'' q => ?_⟩
      cases e with
      | returned v => exact ⟨q, v, a.defers, rfl⟩
      | panicked ch => exact q
      | outgrown => exact q
    case row row args => exact ⟨h.1, h.2.mono fun v w'' q => ⟨q, v, a.defers, rfl⟩⟩
    case round =>
      refine ⟨h.1, h.2.mono fun e w'' q => ?_⟩
      cases e with
      | returned v => exact ⟨q, v, a.defers, rfl⟩
      | panicked ch => exact q
      | outgrown => exact q
  | halt x w' =>
    cases x <;> simp only [Oper.uponIn] at h ⊢
    exact h

theorem take_early {w' : World} {E H : List HP} {F : HP} (s : Sat w' (stars (F :: (E ++ H)))) : Sat w' (stars (sep (stars E) F :: H)) :=
  s.imp fun _ x => by
    have h1 := sep_mono (fun _ x => x) (fun _ y => stars_append y) x
    exact sep_mono (fun _ y => sep_comm y) (fun _ y => y) (sep_assoc h1)

theorem give_early {w' : World} {E H : List HP} {F : HP} (s : Sat w' (stars (sep (stars E) F :: H))) : Sat w' (stars (F :: (E ++ H))) :=
  s.imp fun _ x => by
    have h1 := sep_assoc' (sep_mono (fun _ y => sep_comm y) (fun _ y => y) x)
    exact sep_mono (fun _ x => x) (fun _ y => stars_append' y) h1

/-- What has come up: a pending one. -/
theorem Inv.do_pend (pl : Plan ops m π0) (v : Inv ρ P ops Q n ds F m π0 L a w av pre π pend ann early rs H Φ A) {y : Nat} (hy : y ∈ pend.map (·.1)) (hlt : y < ops.size)
    (hL : ∀ j, (m y).testBit j = true → L.getD j false = true) (hr : ∀ o, ops[y]? = some o → ∀ e ∈ o.after, Region.binds .any e = true → L.getD e.on false = true)
    {K : Act → World → Prop} (hK : ∀ a' w' pend', Inv ρ P ops Q n ds F m π0 (L.setIfInBounds y true) a' w' av pre π pend' ann early rs H Φ A → K a' w') : wpOpIn (Fc ρ) 0 P ops Q y K a w := by
  obtain ⟨⟨y', u, φ⟩, hp, rfl⟩ := List.mem_map.1 hy
  obtain ⟨⟨o, ho, hev⟩, hφ, hΦ, ⟨d, hd⟩, hq⟩ := v.ev _ hp
  simp only at *
  have hod : o.dst = some d := by simpa [dstOf, ho] using hd
  have hcl := exec_agree pl ho (v.clear pl ho hL (early_looks pl v ho hq rfl))
  have hinv : Inv ρ P ops Q n ds F m π0 (L.setIfInBounds y' true) (a.put o.dst u) w av pre π (pend.filter fun p => p.1 != y') ann early rs H Φ A := by
    have hmem : ∀ p ∈ pend.filter (fun p => p.1 != y'), p ∈ pend ∧ p.1 ≠ y' := fun p h => by
      have := List.mem_filter.1 h
      exact ⟨this.1, by simpa using this.2⟩
    have hnod := v.nodup
    constructor
    case dw => exact v.dw
    case split => exact v.split
    case regs => exact v.regs
    case asize => simp [Act.put, hod, v.asize]
    case adef => simp [Act.put, hod, v.adef]
    case same =>
      intro t h1 h2
      by_cases e : d = t
      · subst e
        rw [v.has _ hp d hd]
        have hdn : d < n := by
          have := v.has _ hp d hd
          have h3 := (Array.getElem?_eq_some_iff.1 this).1
          rw [v.regs.size] at h3; exact h3
        simp [Act.put, hod, v.asize, hdn]
      · simp only [Act.put, hod, Array.getElem?_setIfInBounds_ne e]
        refine v.same t (fun p hp' h => ?_) h2
        by_cases e2 : p.1 = y'
        · rw [e2, hd] at h; exact e (by cases h; rfl)
        · exact h1 p (List.mem_filter.2 ⟨hp', by simpa using e2⟩) h
    case has => exact fun p hp' => v.has p (hmem p hp').1
    case size => simp [v.size]
    case listed =>
      intro j hj
      rw [getD_set (by rw [v.size]; exact hlt)]
      have hl := v.listed j hj
      by_cases e : j = y'
      · subst e
        simp only [if_true]
        refine ⟨fun h => (by cases h), fun h => ?_⟩
        exfalso
        rcases h with h | h | h
        · exact (List.nodup_append.1 hnod).2.2 j h j (List.mem_append.2 (.inl (List.mem_map.2 ⟨_, hp, rfl⟩))) rfl
        · obtain ⟨p, hp', e⟩ := List.mem_map.1 h
          exact (hmem p hp').2 e
        · exact (List.nodup_append.1 (List.nodup_append.1 hnod).2.1).2.2 j (List.mem_map.2 ⟨_, hp, rfl⟩) j h rfl
      · rw [if_neg e, hl]
        constructor
        · rintro (h | h | h)
          · exact .inl h
          · obtain ⟨p, hp', e'⟩ := List.mem_map.1 h
            exact .inr (.inl (List.mem_map.2 ⟨p, List.mem_filter.2 ⟨hp', by simpa [e'] using e⟩, e'⟩))
          · exact .inr (.inr h)
        · rintro (h | h | h)
          · exact .inl h
          · obtain ⟨p, hp', e'⟩ := List.mem_map.1 h
            exact .inr (.inl (List.mem_map.2 ⟨p, (hmem p hp').1, e'⟩))
          · exact .inr (.inr h)
    case nodup =>
      have hs : List.Sublist ((pend.filter fun p => p.1 != y').map (·.1)) (pend.map (·.1)) := List.Sublist.map _ List.filter_sublist
      exact List.Nodup.sublist (List.Sublist.append (List.Sublist.refl _) (List.Sublist.append hs (List.Sublist.refl _))) hnod
    case closed => exact closed_set v.closed (by rw [v.size]; exact hlt) hr
    case ev => exact fun p hp' => v.ev p (hmem p hp').1
    case eva => exact v.eva
    case evE =>
      intro e he
      obtain ⟨g1, g2, g3, d', ob, mk, g4, g5, g6⟩ := v.evE e he
      refine ⟨g1, g2, ?_, d', ob, mk, g4, g5, ?_⟩
      · rw [getD_set (by rw [v.size]; exact hlt)]; split
        · rfl
        · exact g3
      · have hne : d ≠ d' := fun hdd => by
          subst hdd
          have := pl.dsts e.1 y' d g4 hd
          have := work_inj pl (v.mem (.inl g1)) (v.mem (.inl hq)) (i := y') (by rw [this]; rfl) rfl
          cases this
        simp only [Act.put, hod, Array.getElem?_setIfInBounds_ne hne]
        exact g6
    case takes => exact v.takes
    case once => exact v.once
    case sat => exact v.sat
  unfold wpOpIn
  simp only [ho]
  rcases hev with ⟨hw, hx⟩ | ⟨hw, hu⟩
  · rw [if_pos (by rw [← hcl.2.1]; exact hw)]
    exact op_wp (nx := .value u) (w' := w) (by rw [← hcl.1]; exact hx w (hφ w (sat_drop (v.sat.ent .drop)))) (by simp) (hK _ _ _ hinv)
  · rw [if_neg (by rw [← hcl.2.1, hw]; simp), ← hu]
    exact ⟨fun _ _ => trivial, hK _ _ _ hinv⟩


/-- What has come up: a block that was announced. -/
theorem Inv.do_ann (pl : Plan ops m π0) (v : Inv ρ P ops Q n ds F m π0 L a w av pre π pend ann early rs H Φ A) {y : Nat} (hy : y ∈ ann) (hlt : y < ops.size)
    (hL : ∀ j, (m y).testBit j = true → L.getD j false = true) (hr : ∀ o, ops[y]? = some o → ∀ e ∈ o.after, Region.binds .any e = true → L.getD e.on false = true)
    {K : Act → World → Prop} (hK : ∀ a' w' ann' early', Inv ρ P ops Q n ds F m π0 (L.setIfInBounds y true) a' w' av pre π pend ann' early' rs H Φ A → K a' w') : wpOpIn (Fc ρ) 0 P ops Q y K a w := by
  obtain ⟨hq, htk, ob, mk, hA, ⟨o, ho, hw, hx⟩, d, hd, hdn⟩ := v.eva y hy
  have hod : o.dst = some d := by simpa [dstOf, ho] using hd
  have hcl := exec_agree pl ho (v.clear pl ho hL (early_looks pl v ho hq rfl))
  have hun := v.unlisted pl (i := y) (.inr (.inr hy))
  have hne : ∀ e ∈ early, e.1 ≠ y := fun e he h => by
    have := (v.evE e he).2.2.1
    rw [h, hun] at this; cases this
  have hnod := v.nodup
  have hmem : ∀ j ∈ ann.filter (fun j => j != y), j ∈ ann ∧ j ≠ y := fun j h => by
    have := List.mem_filter.1 h
    exact ⟨this.1, by simpa using this.2⟩
  have hinv : Inv ρ P ops Q n ds F m π0 (L.setIfInBounds y true) (a.put o.dst (mk w.heap.size)) (w.alloc ob) av pre π pend (ann.filter fun j => j != y) ((y, w.heap.size) :: early) rs H Φ A := by
    constructor
    case dw => exact v.dw
    case split => exact v.split
    case regs => exact v.regs
    case asize => simp [Act.put, hod, v.asize]
    case adef => simp [Act.put, hod, v.adef]
    case same =>
      intro t h1 h2
      have hne : d ≠ t := fun e => h2 _ (List.mem_cons_self ..) (e ▸ hd)
      simp only [Act.put, hod, Array.getElem?_setIfInBounds_ne hne]
      exact v.same t h1 (fun e he => h2 e (by simp [he]))
    case has => exact v.has
    case size => simp [v.size]
    case listed =>
      intro j hj
      rw [getD_set (by rw [v.size]; exact hlt)]
      have hl := v.listed j hj
      by_cases e : j = y
      · subst e
        simp only [if_true]
        refine ⟨fun h => (by cases h), fun h => ?_⟩
        exfalso
        rcases h with h | h | h
        · exact (List.nodup_append.1 hnod).2.2 j h j (List.mem_append.2 (.inr hy)) rfl
        · exact (List.nodup_append.1 (List.nodup_append.1 hnod).2.1).2.2 j h j hy rfl
        · exact (hmem j h).2 rfl
      · rw [if_neg e, hl]
        constructor
        · rintro (h | h | h)
          · exact .inl h
          · exact .inr (.inl h)
          · exact .inr (.inr (List.mem_filter.2 ⟨h, by simpa using e⟩))
        · rintro (h | h | h)
          · exact .inl h
          · exact .inr (.inl h)
          · exact .inr (.inr (hmem j h).1)
    case nodup => exact List.Nodup.sublist (List.Sublist.append (List.Sublist.refl _) (List.Sublist.append (List.Sublist.refl _) List.filter_sublist)) hnod
    case closed => exact closed_set v.closed (by rw [v.size]; exact hlt) hr
    case ev => exact v.ev
    case eva => exact fun j hj => v.eva j (hmem j hj).1
    case evE =>
      intro e he
      rcases List.mem_cons.1 he with rfl | he
      · refine ⟨hq, htk, ?_, d, ob, mk, hd, hA, ?_⟩
        · rw [getD_set (by rw [v.size]; exact hlt)]; simp
        · simp [Act.put, hod, v.asize, hdn]
      · obtain ⟨g1, g2, g3, d', ob', mk', g4, g5, g6⟩ := v.evE e he
        refine ⟨g1, g2, ?_, d', ob', mk', g4, g5, ?_⟩
        · rw [getD_set (by rw [v.size]; exact hlt), if_neg (hne e he)]; exact g3
        · have hdd : d ≠ d' := fun h => by
            subst h
            exact hne e he (pl.dsts e.1 y d g4 hd)
          simp only [Act.put, hod, Array.getElem?_setIfInBounds_ne hdd]
          exact g6
    case takes =>
      intro j hj
      rcases v.takes j hj with h | h | h
      · exact .inl h
      · by_cases e : j = y
        · exact .inr (.inr (by simp [e]))
        · exact .inr (.inl (List.mem_filter.2 ⟨h, by simpa using e⟩))
      · exact .inr (.inr (by simp [h]))
    case once =>
      simp only [List.map_cons]
      refine List.nodup_cons.2 ⟨fun h => ?_, v.once⟩
      obtain ⟨e, he, h⟩ := List.mem_map.1 h
      exact hne e he h
    case sat =>
      have hb : eblk A (y, w.heap.size) = own w.heap.size ob := by simp [eblk, hA]
      rw [List.map_cons, hb]
      exact (new_at (w' := w.alloc ob) v.sat .alloc).imp fun _ x => sep_left x
  unfold wpOpIn
  simp only [ho]
  rw [if_pos (by rw [← hcl.2.1]; exact hw)]
  exact op_wp (nx := .value (mk w.heap.size)) (w' := w.alloc ob) (by rw [← hcl.1]; exact hx w) (by simp) (hK _ _ _ _ hinv)

/-- What has come up: something that acts. -/
theorem Inv.do_eff (pl : Plan ops m π0) {y : Nat} (v : Inv ρ P ops Q n ds F m π0 L a w av pre (.eff y :: π) pend ann early rs H Φ A) (hlt : y < ops.size)
    (hL : ∀ j, (m y).testBit j = true → L.getD j false = true) (hr : ∀ o, ops[y]? = some o → ∀ e ∈ o.after, Region.binds .any e = true → L.getD e.on false = true)
    {K : Act → World → Prop} (hK : ∀ a' w' av' rs' H', Inv ρ P ops Q n ds F m π0 (L.setIfInBounds y true) a' w' av' (pre ++ [.eff y]) π pend ann early rs' H' Φ A → K a' w') : wpOpIn (Fc ρ) 0 P ops Q y K a w := by
  obtain ⟨o, ho, hcase⟩ := v.dw
  have hcl := exec_agree pl ho (v.clear pl ho hL (early_looks_head pl v ho))
  have hnod := v.nodup
  have hnod0 : (y :: (List.filterMap DStep.work π ++ (List.map (·.1) pend ++ ann))).Nodup := by
    simpa only [List.filterMap_cons, DStep.work, List.cons_append] using hnod
  have hnew := (List.nodup_cons.1 hnod0).1
  simp only [List.mem_append, not_or] at hnew
  have hun : ∀ p ∈ pend, (m y).testBit p.1 = false := fun p hp => by
    have := v.unlisted pl (i := p.1) (.inr (.inl (List.mem_map.2 ⟨p, hp, rfl⟩)))
    cases h : (m y).testBit p.1 with
    | false => rfl
    | true => rw [hL _ h] at this; cases this
  have hpl : ∀ s ∈ pre, ∀ x o' d, s.work = some x → ops[x]? = some o' → o.dst = some d → (m y).testBit x = false → d ∉ o'.looksAt ops := fun s hs x o' d hw ho' hd hm hl => by
    have := (pair_of pl.looks v.split hs (List.mem_cons_self ..)) x y d o' hw (.inr (.inl rfl)) ho' (by simp [dstOf, ho, hd]) hl
    rw [this.2] at hm; cases hm
  have hunA : ∀ j ∈ ann, (m y).testBit j = false := fun j hj => by
    have := v.unlisted pl (i := j) (.inr (.inr hj))
    cases h : (m y).testBit j with
    | false => rfl
    | true => rw [hL _ h] at this; cases this
  -- whatever is written there, what was known of the others stays
  have hinv : ∀ (u : Value) (rs' : List (Nat × Value)) (H' : List HP) (w' : World), Regs n ds rs' (av.put o.dst u) → DW ρ P ops Q n ds F m π rs' H' Φ A →
      (∀ p ∈ pend, ∀ w, Sat w (stars H') → p.2.2 w) → Sat w' (stars (F :: (early.map (eblk A) ++ H'))) →
      Inv ρ P ops Q n ds F m π0 (L.setIfInBounds y true) (a.put o.dst u) w' (av.put o.dst u) (pre ++ [.eff y]) π pend ann early rs' H' Φ A := by
    intro u rs' H' w' hr' hdw' hkeep hsat'
    constructor
    case dw => exact hdw'
    case split => rw [v.split]; simp
    case regs => exact hr'
    case asize => cases o.dst <;> simp [Act.put, v.asize]
    case adef => cases o.dst <;> simp [Act.put, v.adef]
    case same =>
      intro t h1 h2
      cases hd : o.dst with
      | none => simpa [Act.put] using v.same t h1 h2
      | some d =>
        by_cases e : d = t
        · subst e
          simp only [Act.put, Array.getElem?_setIfInBounds, v.asize, v.regs.size, if_true]
        · simp only [Act.put, Array.getElem?_setIfInBounds_ne e]
          exact v.same t h1 h2
    case has =>
      intro p hp d' hd'
      cases hd : o.dst with
      | none => simpa [Act.put] using v.has p hp d' hd'
      | some d =>
        have hne : d ≠ d' := fun e => by
          subst e
          have := pl.dsts p.1 y d hd' (by simp [dstOf, ho, hd])
          exact hnew.2.1 (List.mem_map.2 ⟨p, hp, this⟩)
        simp only [Act.put, Array.getElem?_setIfInBounds_ne hne]
        exact v.has p hp d' hd'
    case size => simp [v.size]
    case listed =>
      intro j hj
      rw [getD_set (by rw [v.size]; exact hlt)]
      have hl := v.listed j hj
      by_cases e : j = y
      · subst e
        simp only [if_true]
        exact ⟨fun h => (by cases h), fun h => absurd h (by simp only [not_or]; exact hnew)⟩
      · rw [if_neg e, hl]
        simp only [List.filterMap_cons, DStep.work, List.mem_cons, e, false_or]
    case nodup => exact (List.nodup_cons.1 hnod0).2
    case closed => exact closed_set v.closed (by rw [v.size]; exact hlt) hr
    case ev =>
      intro p hp
      obtain ⟨h1, h2, h3, h4, h5⟩ := v.ev p hp
      exact ⟨Ev.put pl h1 (fun o' d' ho' e => hpl _ h5 p.1 o' d' rfl ho' e (hun p hp)), hkeep p hp, h3, h4, by simp [h5]⟩
    case eva =>
      intro j hj
      obtain ⟨h1, h2, ob, mk, h3, h4, h5⟩ := v.eva j hj
      refine ⟨by simp [h1], ?_, ob, mk, h3, EvA.put pl h4 (fun o' d' ho' e => hpl _ h1 j o' d' rfl ho' e (hunA j hj)), h5⟩
      simpa using h2
    case evE =>
      intro e he
      obtain ⟨g1, g2, g3, d', ob, mk, g4, g5, g6⟩ := v.evE e he
      have hey : e.1 ≠ y := fun h => by
        have := v.unlisted pl (i := y) (.inl (by simp [DStep.work]))
        rw [h] at g3; rw [g3] at this; cases this
      refine ⟨by simp [g1], by simpa using g2, ?_, d', ob, mk, g4, g5, ?_⟩
      · rw [getD_set (by rw [v.size]; exact hlt), if_neg hey]; exact g3
      · cases hd : o.dst with
        | none => simpa [Act.put] using g6
        | some d =>
          have hne : d ≠ d' := fun h => by
            subst h
            exact hey (pl.dsts e.1 y d g4 (by simp [dstOf, ho, hd]))
          simp only [Act.put, Array.getElem?_setIfInBounds_ne hne]
          exact g6
    case takes =>
      intro j hj
      have := v.takes j (by simp [hj])
      simpa using this
    case once => exact v.once
    case sat => exact hsat'
  have hkeep0 : ∀ p ∈ pend, ∀ w, Sat w (stars H) → p.2.2 w := fun p hp => (v.ev p hp).2.1
  unfold wpOpIn
  simp only [ho]
  rcases hcase with ⟨hg, d, hd, hdn, hdw⟩ | ⟨hg, hj⟩
  · rw [if_neg (by rw [← hcl.2.1, guard_at v.regs hg]; simp)]
    exact ⟨fun _ _ => trivial, hK _ _ _ _ _ (hinv undef _ _ w (by rw [hd]; exact v.regs.put hdn _) hdw hkeep0 v.sat)⟩
  · rw [if_pos (by rw [← hcl.2.1]; exact guard_at v.regs hg)]
    let F' : HP := sep (stars (early.map (eblk A))) F
    let Q' : Exit → Act → World → Prop := fun e a' w' => match e with
      | .normal => ∃ rs' H', (∀ p ∈ Φ, (m y).testBit p.1 = false → ∀ w, Sat w (stars H') → p.2 w) ∧ DW ρ P ops Q n ds F m π rs' H' Φ A ∧ Regs n ds rs' a' ∧ Sat w' (stars (F' :: H'))
      | .panic ch => ∃ H', J n ds [] (F :: H') (Q (.panic ch)) ∧ a'.tmps.size = n ∧ a'.defers = ds ∧ Sat w' (stars (F' :: H'))
      | _ => False
    have hout : ¬ LetsOut Q' := fun ⟨_, _, h⟩ => h
    have h1 := hj F' Q' (fun rs' H' hk hd a' w' r s => ⟨rs', H', hk, hd, r, s⟩) (fun ch rs' H' hp a' w' r s => ⟨H', hp, r.size, r.defers, s⟩) av w v.regs (take_early v.sat)
    unfold wpListIn at h1
    rw [if_pos (by simp [Region.wanted])] at h1
    have h2 : o.wpIn (Fc ρ) 0 P av w (Q' .normal) Q' := h1
    refine wp_agree hcl.2.2 (by rw [v.regs.defers, v.adef]) ?_ ?_ hout (wp_saying h2)
    · rintro u x w' ⟨⟨rs', H', hk, hd, hr', hs⟩, u', x', e⟩
      -- the defers are as they were
      have hx : x = ds := by
        have := hr'.defers
        cases hod : o.dst <;> simpa [Act.put, hod] using this
      subst hx
      have e1 : ({ av with defers := x } : Act) = av := by have := v.regs.defers; cases av; simp_all
      have e2 : ({ a with defers := x } : Act) = a := by have := v.adef; cases a; simp_all
      rw [e1] at hr'
      rw [e2]
      exact hK _ _ _ _ _ (hinv u rs' H' w' hr' hd (fun p hp => hk _ (v.ev p hp).2.2.1 (hun p hp)) (give_early hs))
    · rintro ch w' ⟨H', hp, h3, h4, hs⟩
      exact hp a w' ⟨v.asize, v.adef, fun t u h => by cases h⟩ ((give_early hs).ent (by
        intro h x
        obtain ⟨ha, hb, c, x1, x2⟩ := x
        have x3 := stars_append x2
        obtain ⟨hc, hd, c', _, x4⟩ := x3
        obtain ⟨h'', c'', s''⟩ := c.symm.shrink c'.right
        exact ⟨h'', ⟨ha, hd, c''.symm, x1, x4⟩, s''⟩))


def left (ops : Array Oper) (L : Array Bool) : Nat := ((List.range ops.size).filter fun i => !L.getD i false).length

theorem left_set {y : Nat} (hy : y < ops.size) (hL : L.size = ops.size) (hu : L.getD y false = false) : left ops (L.setIfInBounds y true) + 1 ≤ left ops L := by
  unfold left
  have h1 : (List.range ops.size).filter (fun i => !(L.setIfInBounds y true).getD i false) = ((List.range ops.size).filter fun i => !L.getD i false).filter (fun i => i != y) := by
    rw [List.filter_filter]
    refine List.filter_congr fun i hi => ?_
    rw [getD_set (by rw [hL]; exact hy)]
    by_cases e : i = y
    · simp [e]
    · rw [if_neg e]; simp [e]
  rw [h1]
  have hm : y ∈ (List.range ops.size).filter fun i => !L.getD i false := List.mem_filter.2 ⟨List.mem_range.2 hy, by simp only [hu]; rfl⟩
  generalize (List.range ops.size).filter (fun i => !L.getD i false) = l at hm
  induction l with
  | nil => cases hm
  | cons x l ih =>
    rcases List.mem_cons.1 hm with e | h
    · subst e
      simp only [List.filter_cons, bne_self_eq_false, Bool.false_eq_true, if_false, List.length_cons]
      have := List.length_filter_le (fun i => i != y) l
      omega
    · simp only [List.filter_cons]
      split
      · simp only [List.length_cons]; have := ih h; omega
      · simp only [List.length_cons]; have := ih h; omega

theorem Inv.sound (pl : Plan ops m π0) : ∀ (fuel : Nat) (L : Array Bool) (a : Act) (w : World) (av : Act) (pre π : List DStep) (pend : Pend) (ann : List Nat) (early : List (Nat × Nat)) (rs : List (Nat × Value)) (H : List HP) (Φ : Facts) (A : Anns),
    Inv ρ P ops Q n ds F m π0 L a w av pre π pend ann early rs H Φ A → left ops L ≤ fuel → wpAnyIn (Fc ρ) 0 P .any ops Q fuel L a w := by
  have hready : ∀ (L : Array Bool), L.size = ops.size → Region.ready .any ops L = [] → ∀ i, i < ops.size → L.getD i false = true := by
    intro L hs h i
    induction i using Nat.strongRecOn with
    | _ i ih =>
      intro hi
      cases hl : L.getD i false with
      | true => rfl
      | false =>
        exfalso
        have hin : i ∈ Region.ready .any ops L := by
          refine mem_ready.2 ⟨?_, ops[i], Array.getElem?_eq_getElem hi, fun e he hb => ?_⟩
          · have : i < L.size := by rw [hs]; exact hi
            simpa [this] using hl
          · have hlt := pl.back i _ (Array.getElem?_eq_getElem hi) e he hb
            exact ih e.on hlt (by omega)
        rw [h] at hin; cases hin
  intro fuel
  induction fuel with
  | zero =>
    intro L a w av pre π pend ann early rs H Φ A v h
    have hall : ∀ i, i < ops.size → L.getD i false = true := fun i hi => by
      cases hl : L.getD i false with
      | true => rfl
      | false =>
        have : i ∈ (List.range ops.size).filter fun i => !L.getD i false := List.mem_filter.2 ⟨List.mem_range.2 hi, by simp only [hl]; rfl⟩
        unfold left at h
        rw [List.length_eq_zero_iff.1 (Nat.le_zero.1 h)] at this
        cases this
    refine ⟨?_, v.finish pl hall _ _ _ _ _ _⟩
    cases hr : Region.ready .any ops L with
    | nil => rfl
    | cons y l =>
      have hy : y ∈ Region.ready .any ops L := by rw [hr]; simp
      obtain ⟨h1, o, ho, _⟩ := mem_ready.1 hy
      have hlt := (Array.getElem?_eq_some_iff.1 ho).1
      have h2 := hall y hlt
      have : y < L.size := by rw [v.size]; exact hlt
      simp [this] at h1 h2
      rw [h1] at h2; cases h2
  | succ fuel ih =>
    intro L a w av pre π pend ann early rs H Φ A v h
    refine ⟨fun hr => v.finish pl (hready L v.size hr) _ _ _ _ _ _, fun y hy => ?_⟩
    obtain ⟨h1, o, ho, hdeps⟩ := mem_ready.1 hy
    have hlt := (Array.getElem?_eq_some_iff.1 ho).1
    have hun : L.getD y false = false := by
      have : y < L.size := by rw [v.size]; exact hlt
      simpa [this] using h1
    have hL := closed_mask pl v.closed y ⟨o, ho, hdeps⟩
    have hr : ∀ o', ops[y]? = some o' → ∀ e ∈ o'.after, Region.binds .any e = true → L.getD e.on false = true := fun o' ho' => by rw [ho] at ho'; cases ho'; exact hdeps
    have hleft : left ops (L.setIfInBounds y true) ≤ fuel := by
      have := left_set (L := L) hlt v.size hun; omega
    obtain ⟨pre', π', pend', ann', early', rs', H', Φ', A', av', v', hc⟩ := Inv.reach pl hL hun hlt _ _ _ _ _ _ _ _ _ _ v
    rcases hc with ⟨π'', rfl⟩ | hc | hc
    · exact v'.do_eff pl hlt hL hr (fun a' w' av'' rs'' H'' vi => ih _ _ _ _ _ _ _ _ _ _ _ _ _ vi hleft)
    · exact v'.do_pend pl hc hlt hL hr (fun a' w' pend'' vi => ih _ _ _ _ _ _ _ _ _ _ _ _ _ vi hleft)
    · exact v'.do_ann pl hc hlt hL hr (fun a' w' ann'' early'' vi => ih _ _ _ _ _ _ _ _ _ _ _ _ _ vi hleft)

/-- **A plan that goes through serves every order.** -/
theorem J_draw (pl : Plan ops m π0) (hm : P.follows .mixedOrders = true) {id : Nat} (h : DW ρ P ops Q n ds F m π0 rs H [] []) : J n ds rs (F :: H) ((Code.region id ops true).wpIn (Fc ρ) 0 P Q) := by
  intro a w r s
  refine wpIn_region_any hm (Inv.sound (n := n) (ds := ds) (F := F) pl ops.size _ a _ a [] π0 [] [] [] rs H [] [] ?_ ?_)
  · constructor
    case dw => exact h
    case split => rfl
    case regs => exact r
    case asize => exact r.size
    case adef => exact r.defers
    case same => exact fun _ _ _ => rfl
    case has => intro p hp; cases hp
    case size => simp
    case listed =>
      intro i hi
      have := pl.all i hi
      simp [hi, this]
    case nodup => simpa using pl.once
    case closed =>
      intro i o ho hi
      have hlt := (Array.getElem?_eq_some_iff.1 ho).1
      simp [hlt] at hi
    case ev => intro p hp; cases hp
    case eva => intro p hp; cases hp
    case evE => intro p hp; cases hp
    case takes =>
      intro i hi
      exact .inl (pl.tookAnn i hi)
    case once => simp
    case sat => exact s.heap ⟨rfl, rfl⟩
  · unfold left
    exact Nat.le_trans (List.length_filter_le _ _) (by simp)

end
end Go.Ws
