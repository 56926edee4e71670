/- What a function is said to do; calls, beginnings and ends of bodies, loops. -/
import Derived.Test.YtgdioloappbjkaaGreatWsOps
import Derived.LoopTactic
set_option linter.unusedSectionVars false
set_option linter.unusedVariables false
set_option linter.unusedSimpArgs false
namespace Go.Ws

/-! ### Assertions taken out of a list, by unification -/

/-- 'c' stands in 'H', the others are 'H''. -/
inductive Sp : List HP → HP → List HP → Prop
  | here {c : HP} {H : List HP} : Sp (c :: H) c H
  | there {c d : HP} {H H' : List HP} : Sp H c H' → Sp (d :: H) c (d :: H')

theorem Sp.out {H : List HP} {c : HP} {H' : List HP} (s : Sp H c H') : ∀ h, stars H h → stars (c :: H') h := by
  induction s with
  | here => exact fun _ x => x
  | there _ ih => exact fun _ x => sep_left (sep_mono (fun _ x => x) (fun h y => ih h y) x)

/-- 'Hf' stands in 'H', the others are 'Hr'. -/
inductive Fr : List HP → List HP → List HP → Prop
  | nil {H : List HP} : Fr H [] H
  | cons {H H1 Hf Hr : List HP} {c : HP} : Sp H c H1 → Fr H1 Hf Hr → Fr H (c :: Hf) Hr

theorem Fr.out {H Hf Hr : List HP} (s : Fr H Hf Hr) : ∀ h, stars H h → stars (Hf ++ Hr) h := by
  induction s with
  | nil => exact fun _ x => x
  | cons s _ ih => exact fun _ x => sep_mono (fun _ x => x) (fun h y => ih h y) (s.out _ x)

theorem Fr.ent {H Hf Hr : List HP} (s : Fr H Hf Hr) : Ent (stars H) (stars Hf) :=
  .trans (.of fun h x => stars_append (s.out h x)) .dropr

/-! ### What a function does -/

def SpecE (P : Program) (f : FuncId) (args : List Value) (H : List HP) (R : Ending → List HP → Prop) : Prop :=
  ∀ (F : HP) (w : World), Sat w (stars (F :: H)) → Calls P f args.toArray w fun e w' => ∃ H', e ≠ .outgrown ∧ R e H' ∧ Sat w' (stars (F :: H'))

/-- It returns. -/
def Ret (R : Value → List HP → Prop) : Ending → List HP → Prop
  | .returned v, H => R v H
  | _, _ => False

def Spec (P : Program) (f : FuncId) (args : List Value) (H : List HP) (R : Value → List HP → Prop) : Prop := SpecE P f args H (Ret R)

class CF (P : Program) (f : FuncId) : Prop where
  call : ∀ (args : Array Value) (w : World), (callFunc f args).run P w = .ok (.enter f args) w

/-- The frame may be anything. -/
theorem SpecE.use {P : Program} {f : FuncId} {args : List Value} {Hf Hr : List HP} {R : Ending → List HP → Prop} (s : SpecE P f args Hf R) {w : World} (h : Sat w (stars (Hf ++ Hr))) :
    Calls P f args.toArray w fun e w' => ∃ H', e ≠ .outgrown ∧ R e H' ∧ Sat w' (stars (Hr ++ H')) := by
  have h1 : Sat w (stars (stars Hr :: Hf)) := h.imp fun _ x => sep_comm (stars_append x)
  refine (s (stars Hr) w h1).mono ?_
  rintro e w' ⟨H', h2, h3, h4⟩
  exact ⟨H', h2, h3, h4.imp fun _ x => stars_append' x⟩

section
variable {P : Program} {ρ : Option Nat} {n : Nat} {ds : List Deferred} {rs : List (Nat × Value)} {H H' Hf Hr : List HP} {Q : Exit → Act → World → Prop}
variable {ops : Array Oper} {rest : List Oper} {ty : TypeId} {ps : String} {af : Array Edge} {d : Nat}

theorem J_enter {op : Op} {f : FuncId} {lvs : List Value} {R : Ending → List HP → Prop} (hd : d < n)
    (hrun : ∀ a w, Regs n ds rs a → Sat w (stars H) → (execOp a.eval ⟨some d, op, ty, ps, af, none⟩).run P w = .ok (.enter f lvs.toArray) w)
    (spec : SpecE P f lvs Hf R) (fr : Fr H Hf Hr)
    (h : ∀ v H2, R (.returned v) H2 → J n ds ((d, v) :: rs) (Hr ++ H2) (wpListIn (Fc ρ) 0 P ops Q rest))
    (hp : ∀ ch H2, R (.panicked ch) H2 → J n ds rs (Hr ++ H2) (Q (.panic ch))) : J n ds rs H (wpListIn (Fc ρ) 0 P ops Q (⟨some d, op, ty, ps, af, none⟩ :: rest)) := by
  intro a w r s
  unfold wpListIn
  rw [if_pos (by simp [Region.wanted])]
  refine op_wp (hrun a w r s) (by simp) ⟨fun h => (by simp at h), callsIn_of ((spec.use (s.imp fr.out)).mono ?_)⟩
  rintro e w' ⟨H2, h1, h2, h3⟩
  cases e with
  | returned v => exact h v H2 h2 _ w' (r.put hd v) h3
  | panicked ch => exact hp ch H2 h2 a w' r h3
  | outgrown => exact absurd rfl h1

theorem callFunc_run {f : FuncId} [hc : CF P f] {l : List Operand} {lvs : List Value} {aT : Array TypeId} {a : Act} {w : World} (r : Regs n ds rs a) (ha : evalOs rs l = some lvs) :
    (execOp a.eval ⟨some d, .call ⟨.value (.func f), l.toArray, aT⟩, ty, ps, af, none⟩).run P w = .ok (.enter f lvs.toArray) w := by
  have := r.evals ha
  simp [execOp, resolve, Act.eval, Deferred.ofValue, invoke, hc.call, this]

/-- A call of a function that may panic. -/
theorem J_callE {f : FuncId} {l : List Operand} {lvs : List Value} {aT : Array TypeId} {R : Ending → List HP → Prop} [CF P f] (ha : evalOs rs l = some lvs) (spec : SpecE P f lvs Hf R)
    (fr : Fr H Hf Hr) (hd : d < n)
    (h : ∀ v H2, R (.returned v) H2 → J n ds ((d, v) :: rs) (Hr ++ H2) (wpListIn (Fc ρ) 0 P ops Q rest))
    (hp : ∀ ch H2, R (.panicked ch) H2 → J n ds rs (Hr ++ H2) (Q (.panic ch))) :
    J n ds rs H (wpListIn (Fc ρ) 0 P ops Q (⟨some d, .call ⟨.value (.func f), l.toArray, aT⟩, ty, ps, af, none⟩ :: rest)) :=
  J_enter hd (fun _ _ r _ => callFunc_run r ha) spec fr h hp

/-- A call of a function that returns. -/
theorem J_call {f : FuncId} {l : List Operand} {lvs : List Value} {aT : Array TypeId} {R : Value → List HP → Prop} [CF P f] (ha : evalOs rs l = some lvs) (spec : Spec P f lvs Hf R)
    (fr : Fr H Hf Hr) (hd : d < n)
    (h : ∀ v H2, R v H2 → J n ds ((d, v) :: rs) (Hr ++ H2) (wpListIn (Fc ρ) 0 P ops Q rest)) :
    J n ds rs H (wpListIn (Fc ρ) 0 P ops Q (⟨some d, .call ⟨.value (.func f), l.toArray, aT⟩, ty, ps, af, none⟩ :: rest)) :=
  J_callE ha spec fr hd (fun v H2 r => h v H2 r) (fun _ _ r => r.elim)

theorem callVal_run {f : FuncId} [hc : CF P f] {x : Operand} {l : List Operand} {fs cap lvs : List Value} {aT : Array TypeId} {a : Act} {w : World} (r : Regs n ds rs a)
    (hx : evalO rs x = some (.func (.func f) fs.toArray cap.toArray)) (ha : evalOs rs l = some lvs) :
    (execOp a.eval ⟨some d, .call ⟨.value x, l.toArray, aT⟩, ty, ps, af, none⟩).run P w = .ok (.enter f (fs ++ lvs ++ cap).toArray) w := by
  have := r.evals ha
  simp [execOp, resolve, r.eval hx, Deferred.ofValue, invoke, hc.call, this]

/-- A call of a function value. -/
theorem J_callV {f : FuncId} {x : Operand} {l : List Operand} {fs cap lvs : List Value} {aT : Array TypeId} {R : Ending → List HP → Prop} [CF P f]
    (hx : evalO rs x = some (.func (.func f) fs.toArray cap.toArray)) (ha : evalOs rs l = some lvs)
    (spec : SpecE P f (fs ++ lvs ++ cap) Hf R) (fr : Fr H Hf Hr) (hd : d < n)
    (h : ∀ v H2, R (.returned v) H2 → J n ds ((d, v) :: rs) (Hr ++ H2) (wpListIn (Fc ρ) 0 P ops Q rest))
    (hp : ∀ ch H2, R (.panicked ch) H2 → J n ds rs (Hr ++ H2) (Q (.panic ch))) :
    J n ds rs H (wpListIn (Fc ρ) 0 P ops Q (⟨some d, .call ⟨.value x, l.toArray, aT⟩, ty, ps, af, none⟩ :: rest)) :=
  J_enter hd (fun _ _ r _ => callVal_run r hx ha) spec fr h hp

/-! ### Beginning and end of a body -/

def regsOf : Nat → List Value → List (Nat × Value)
  | _, [] => []
  | i, v :: l => (i, v) :: regsOf (i + 1) l

theorem lookR_regsOf : ∀ (l : List Value) (i t : Nat) (v : Value), lookR (regsOf i l) t = some v → i ≤ t ∧ l[t - i]? = some v
  | [], _, _, _, h => by cases h
  | u :: l, i, t, v, h => by
    simp only [regsOf, lookR] at h
    cases e : Nat.beq i t with
    | true =>
      rw [e] at h
      have := Nat.eq_of_beq_eq_true e
      subst this
      simp at h
      simp [h]
    | false =>
      rw [e] at h
      have hne := Nat.ne_of_beq_eq_false e
      obtain ⟨h1, h2⟩ := lookR_regsOf l (i + 1) t v h
      refine ⟨by omega, ?_⟩
      rw [show t - i = (t - (i + 1)) + 1 from by omega]
      simpa using h2

theorem regs_begin {args : List Value} (h : args.length ≤ n) :
    Regs n [] (regsOf 0 args) { tmps := args.toArray ++ Array.replicate (n - args.toArray.size) undef, defers := [] } := by
  refine ⟨by simp; omega, rfl, fun t v hv => ?_⟩
  obtain ⟨_, h2⟩ := lookR_regsOf args 0 t v hv
  simp only [Nat.sub_zero] at h2
  have ht : t < args.length := by
    rcases Nat.lt_or_ge t args.length with h' | h'
    · exact h'
    · simp [List.getElem?_eq_none h'] at h2
  rw [Array.getElem?_append_left (by simpa using ht)]
  simpa using h2

theorem getD_of {a : Act} (r : Regs n ds rs a) {t : Nat} {v : Value} (h : lookR rs t = some v) : a.tmps.getD t undef = v := r.eval (x := .tmp t) h

def oneRes (tmps : Array Value) : ResultVar → Sem Value
  | .tmp t => pure (tmps.getD t undef)
  | .cell a t => do loadVar t (← asAddr (tmps.getD a undef))

/-- What a result comes to. -/
def ResOne (P : Program) (n : Nat) (ds : List Deferred) (rs : List (Nat × Value)) (H : List HP) (x : ResultVar) (v : Value) : Prop :=
  ∀ a w, Regs n ds rs a → Sat w (stars H) → (oneRes a.tmps x).run P w = .ok v w

theorem R_tmp {t : Nat} {v : Value} (h : lookR rs t = some v) : ResOne P n ds rs H (.tmp t) v := fun a w r _ => by simp only [oneRes, getD_of r h]; rfl
theorem R_cell {t b o : Nat} {T T' : TypeId} {cs : List Value} {v : Value} [NA P T] (h : lookR rs t = some (ptr b o)) [hb : BlkAt H b T' cs] [hv : NthL cs o v] : ResOne P n ds rs H (.cell t T) v := fun a w r s => by
  have h2 : w.cell? ⟨b, o, none⟩ = some v := by rw [cell_of_heap (hb.heap s)]; exact hv.nth
  simp [oneRes, getD_of r h, asAddr, loadVar, NA.no (P := P) (T := T), h2]
theorem R_cella {t b o k : Nat} {T T' : TypeId} {cs vs : List Value} [AG P T] [hk : SZ P T k] (h : lookR rs t = some (ptr b o)) [hb : BlkAt H b T' cs] [hv : SubL cs o k vs] : ResOne P n ds rs H (.cell t T) (.agg vs.toArray) := fun a w r s => by
  have h2 : (loadCells ⟨b, o, none⟩ k).run P w = .ok vs.toArray w := run_loadCells (fun j hj => hb.cells s hv j (by rw [hv.sub.2]; exact hj)) hv.sub.2
  simp [oneRes, getD_of r h, asAddr, loadVar, AG.yes (P := P) (T := T), hk.size, h2]

def ResV (P : Program) (n : Nat) (ds : List Deferred) (rs : List (Nat × Value)) (H : List HP) (res : List ResultVar) (v : Value) : Prop :=
  ∀ (fn : Func) a w, fn.results = res.toArray → Regs n ds rs a → Sat w (stars H) → (results fn a.tmps).run P w = .ok v w

theorem results_one (fn : Func) (tmps : Array Value) : results fn tmps = (do let vs ← fn.results.mapM (oneRes tmps); pure (if h : vs.size = 1 then vs[0] else .tuple vs)) := by
  unfold results
  congr 1

theorem ResV_0 : ResV P n ds rs H [] (.tuple #[]) := fun fn a w hr _ _ => by simp [results_one, hr]
theorem ResV_1 {x : ResultVar} {v : Value} (h : ResOne P n ds rs H x v) : ResV P n ds rs H [x] v := fun fn a w hr r s => by simp [results_one, hr, h a w r s]
theorem ResV_2 {x y : ResultVar} {v u : Value} (h : ResOne P n ds rs H x v) (h2 : ResOne P n ds rs H y u) : ResV P n ds rs H [x, y] (.tuple #[v, u]) := fun fn a w hr r s => by simp [results_one, hr, h a w r s, h2 a w r s]
theorem ResV_3 {x y z : ResultVar} {v u t : Value} (h : ResOne P n ds rs H x v) (h2 : ResOne P n ds rs H y u) (h3 : ResOne P n ds rs H z t) : ResV P n ds rs H [x, y, z] (.tuple #[v, u, t]) := fun fn a w hr r s => by simp [results_one, hr, h a w r s, h2 a w r s, h3 a w r s]

/-- The end of a body that defers nothing. -/
def EndOf (P : Program) (n : Nat) (R : Ending → List HP → Prop) (res : List ResultVar) (F : HP) (rs : List (Nat × Value)) (H : List HP) : Prop :=
  ∃ v H', ResV P n [] rs H res v ∧ R (.returned v) H' ∧ Ent (stars H) (stars (F :: H'))

theorem SpecE_of {f : FuncId} {fn : Func} {c : Code} {args : List Value} {H : List HP} {R : Ending → List HP → Prop} {res : List ResultVar} {n : Nat}
    (hf : P.funcs[f]? = some fn) (hb : fn.body = some c) (hn : fn.ntmps = n) (hr : fn.results = res.toArray) (hl : args.length ≤ n)
    (h : ∀ (F : HP) (Q : Exit → Act → World → Prop),
      (∀ rs' H1, EndOf P n R res F rs' H1 → J n [] rs' H1 (Q .ret)) → (∀ rs' H1, EndOf P n R res F rs' H1 → J n [] rs' H1 (Q .normal)) →
      (∀ ch rs' H1, (∃ H', R (.panicked ch) H' ∧ Ent (stars H1) (stars (F :: H'))) → J n [] rs' H1 (Q (.panic ch))) →
      J n [] (regsOf 0 args) (F :: H) (c.wpIn (Fc none) 0 P Q)) : SpecE P f args H R := by
  intro F w s
  refine calls_of_wp hf hb ((wpIn_wide (n := 0)).1 ?_)
  rw [hn]
  have hend : ∀ rs' H1, EndOf P n R res F rs' H1 → J n [] rs' H1 (bodyPost P fn (fun e w' => ∃ H', e ≠ .outgrown ∧ R e H' ∧ Sat w' (stars (F :: H'))) .ret) := by
    rintro rs' H1 ⟨v, H', h1, h2, h3⟩ a w r s
    exact ⟨r.defers, v, h1 fn a w hr r s, H', by simp, h2, s.ent h3⟩
  refine h F _ hend hend ?_ _ w (regs_begin hl) s
  rintro ch rs' H1 ⟨H', h1, h2⟩ a w r s
  exact ⟨r.defers, H', by simp, h1, s.ent h2⟩

/-! ### Loops -/

/-- A state among what the head of a loop may be. -/
def At {α : Type} (m : α → Nat) (top : Nat) (Rs : α → List (Nat × Value)) (Hs : α → List HP) (rs : List (Nat × Value)) (H : List HP) : Prop :=
  ∃ x, m x < top ∧ (∀ t v, lookR (Rs x) t = some v → lookR rs t = some v) ∧ Ent (stars H) (stars (Hs x))

theorem J_loop {α : Type} (Rs : α → List (Nat × Value)) (Hs : α → List HP) (m : α → Nat) {c : Code} (x0 : α)
    (h0 : ∀ t v, lookR (Rs x0) t = some v → lookR rs t = some v) (h1 : Ent (stars H) (stars (Hs x0)))
    (h : ∀ x (Q' : Exit → Act → World → Prop), (∀ rs' H', At m (m x) Rs Hs rs' H' → J n ds rs' H' (Q' .normal)) → (∀ e, e ≠ .normal → Q' e = Q e) →
      J n ds (Rs x) (Hs x) (c.wpIn (Fc ρ) 0 P Q')) : J n ds rs H ((Code.loop c).wpIn (Fc ρ) 0 P Q) := by
  have key : ∀ (j : Nat) (x : α), m x < j → J n ds (Rs x) (Hs x) (Code.roundsIn (Fc ρ) 0 P c Q j) := by
    intro j
    induction j with
    | zero => intro x hx; omega
    | succ j ih =>
      intro x hx
      rw [show Code.roundsIn (Fc ρ) 0 P c Q (j + 1) = c.wpIn (Fc ρ) 0 P (Exit.then (Code.roundsIn (Fc ρ) 0 P c Q j) Q) from funext fun a => funext fun w => roundsIn_succ]
      refine h x _ ?_ ?_
      · rintro rs' H' ⟨x', g1, g2, g3⟩ a w r s
        exact ih x' (by omega) a w (r.weak g2) (s.ent g3)
      · intro e he; cases e <;> first | rfl | exact absurd rfl he
  intro a w r s
  exact wpIn_loop_rounds (m x0 + 1) (key (m x0 + 1) x0 (by omega) a w (r.weak h0) (s.ent h1))

end
end Go.Ws
namespace Go.Ws
theorem J_k {n : Nat} {ds : List Deferred} {rs : List (Nat × Value)} {H : List HP} {K G : Act → World → Prop}
    (hk : ∀ n ds rs H, J n ds rs H G → J n ds rs H K) (h : J n ds rs H G) : J n ds rs H K := hk _ _ _ _ h
end Go.Ws
