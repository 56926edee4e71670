/- Texts and calls, shown right. -/
import Derived.Test.YtgdioloappbjkaaGreatWsReg
import Derived.LoopN
import Derived.Test.YtgdioloappbjkaaGreatWsScope
set_option linter.unusedSectionVars false
set_option linter.unusedVariables false
set_option linter.unusedSimpArgs false
namespace Go.Ws
variable [A : Arrs]

/-! ### A range over a function -/

theorem getObj_loop {P : Program} {w : World} {l : Nat} {r : Loop} (h : w.heap[l]? = some (.loop r)) : (getObj l).run P w = .ok (.loop r) w := by simp [getObj, Sem.run, h]

theorem setObj_loop {P : Program} {w : World} {l : Nat} {r : Loop} {o' : Obj} (h : w.heap[l]? = some (.loop r)) : (setObj l o').run P w = .ok () (setB w l o') := setObj_run h (fun a b c hh => by cases hh)

theorem wp_rangeQ {P : Program} {Q : Exit → Act → World → Prop} {a : Act} {w : World} {g : Operand} {ps : Array Tmp} {assign body : Code} {gf : FuncId} {fs lb : Array Value}
    (hg : a.eval g = .func (.func gf) fs lb) (hcf : ∀ (as : Array Value) w, (callFunc gf as).run P w = .ok (.enter gf as) w)
    (h : ∀ (r : Loop), r.state = .ready → r.pending = none → r.tmps = a.tmps → r.params = ps → r.assign = assign → r.body = body → r.defers = w.heap.size →
      Calls P gf (fs ++ #[.func (.yield (w.heap.size + 1)) #[] #[]] ++ lb) ((w.alloc (.deferred (some []))).alloc (.loop r)) fun e w' =>
      ∃ v r', e = .returned v ∧ w'.heap[w.heap.size + 1]? = some (.loop r') ∧ r'.state ≠ .busy ∧
        match r'.pending with
        | none => Q .normal { a with defers := ⟨.collected w.heap.size, #[]⟩ :: a.defers } (setB w' (w.heap.size + 1) (.loop { r' with state := .exhausted }))
        | some c => c.wpIn (Fc none) 0 P Q { a with defers := ⟨.collected w.heap.size, #[]⟩ :: a.defers } (setB w' (w.heap.size + 1) (.loop { r' with state := .exhausted }))) :
    (Code.rangeFunc g ps assign body).wpIn (Fc none) 0 P Q a w := by
  refine wpIn_rangeFunc fun fn _ => ?_
  let r : Loop := { state := .ready, pending := none, fn, tmps := a.tmps, params := ps, assign, body, defers := w.heap.size }
  have he : (Instr.enterLoop fn a.tmps ps assign body none).run P w = .ok (w.heap.size + 1, [⟨.collected w.heap.size, #[]⟩]) ((w.alloc (.deferred (some []))).alloc (.loop r)) := by
    simp [Instr.enterLoop, r]
  have hcst : a.eval (.const (.func (.yield (w.heap.size + 1)) #[] #[])) = .func (.yield (w.heap.size + 1)) #[] #[] := rfl
  refine ⟨w.heap.size + 1, [⟨.collected w.heap.size, #[]⟩], (w.alloc (.deferred (some []))).alloc (.loop r), ⟨.fn (.func gf) lb, fs ++ #[.func (.yield (w.heap.size + 1)) #[] #[]]⟩, (w.alloc (.deferred (some []))).alloc (.loop r), gf, fs ++ #[.func (.yield (w.heap.size + 1)) #[] #[]] ++ lb, (w.alloc (.deferred (some []))).alloc (.loop r), he, ?_, fun _ _ => trivial, ?_, fun h => (by simp at h), callsIn_of ?_⟩
  · simp [resolve, hg, Deferred.ofValue, hcst]
  · simp [invoke, hcf]
  · refine (h r rfl rfl rfl rfl rfl rfl rfl).mono ?_
    rintro e w' ⟨v, r', rfl, hL, hs, hQ⟩
    refine ⟨r'.pending, setB w' (w.heap.size + 1) (.loop { r' with state := .exhausted }), ?_, ?_⟩
    · simp [Instr.endLoop, Instr.getLoop, getObj_loop hL, hs, setObj_loop hL]
    · cases hp : r'.pending with
      | none => rw [hp] at hQ; simpa using hQ
      | some c => rw [hp] at hQ; simpa using hQ

/-! ### A body's end -/

/-- Its deferred calls, where it returns: each quiet. -/
def LeavesQ (P : Program) (fn : Func) (tmps : Array Value) (R : Ending → World → Prop) : List Deferred → World → Prop
  | [], w => ∃ v, (results fn tmps).run P w = .ok v w ∧ R (.returned v) w
  | ⟨.collected D, _⟩ :: ds, w => w.heap[D]? = some (.deferred (some [])) ∧ LeavesQ P fn tmps R ds (setB w D (.deferred none))
  | ⟨.fn fv cap, dargs⟩ :: ds, w => ∃ f args, (invoke (.fn fv cap) dargs).run P w = .ok (.enter f args) w ∧
      CallsD P f args .returning w fun e u' w' => ∃ v, e = .returned v ∧ u' = .returning ∧ LeavesQ P fn tmps R ds w'
  | _ :: _, _ => False

theorem step_collected {P : Program} {fr : Frame} {cs : List Frame} {w : World} {D : Nat} {x : Array Value} {ds : List Deferred} (hm : fr.mode = .returning) (hd : fr.defers = ⟨.collected D, x⟩ :: ds)
    (hw : w.heap[D]? = some (.deferred (some []))) : step P (lone fr cs w) = .next (lone { fr with defers := ds } cs (setB w D (.deferred none))) := by
  refine step_lone_go ?_
  have hg : (getObj D).run P w = .ok (.deferred (some [])) w := by simp [getObj, Sem.run, hw]
  have hset : (setObj D (.deferred none)).run P w = .ok () (setB w D (.deferred none)) := setObj_run hw (fun a b c hh => by cases hh)
  have ht : (Instr.takeDeferred D).run P w = .ok [] (setB w D (.deferred none)) := by simp [Instr.takeDeferred, hg, hset]
  simp [stepG, unwind, hm, hd, Sem.runT_eq, ht, GStep.bare_after]

theorem leavesQ_steps {P : Program} {fn : Func} {tmps : Array Value} {R : Ending → World → Prop} : ∀ (ds : List Deferred) (w : World) (fr : Frame) (cs : List Frame), fr.mode = .returning → fr.defers = ds → fr.tmps = tmps →
    P.funcs[fr.fn]? = some fn → fr.kind = .normal → LeavesQ P fn tmps R ds w → ∃ e w' fr', R e w' ∧ Comes P (lone fr cs w) (lone fr' cs w') e ∧ fr'.fn = fr.fn ∧ fr'.leaving P w' e
  | [], w, fr, cs, hu, hd, ht, hf, hk, ⟨v, hr, hR⟩ => ⟨.returned v, w, fr, hR, Steps.refl P _, rfl, hu, hd, hk, fn, hf, ht ▸ hr⟩
  | ⟨.collected D, x⟩ :: ds, w, fr, cs, hu, hd, ht, hf, hk, ⟨h1, h2⟩ => by
    have s1 := step_collected (P := P) (cs := cs) hu hd h1
    obtain ⟨e', w'', fr', hR', hs', hfn', hl'⟩ := leavesQ_steps ds _ { fr with defers := ds } cs hu rfl ht hf hk h2
    exact ⟨e', w'', fr', hR', Comes.of_steps (.one s1) hs', hfn', hl'⟩
  | ⟨.fn fv cap, dargs⟩ :: ds, w, fr, cs, hu, hd, ht, hf, hk, ⟨f, args, hinv, hcall⟩ => by
    have s1 := step_defer (P := P) (cs := cs) (d := ⟨.fn fv cap, dargs⟩) (by rw [hu]; simp) hd rfl hinv
    obtain ⟨e, u', w', frX, ⟨v, rfl, rfl, hR⟩, hsteps, hkX, hgo⟩ := hcall { fr with defers := ds } cs hu
    have s2 := step_going_returned (c := { { fr with defers := ds } with mode := .returning }) (cs := cs) hkX hgo
    obtain ⟨e', w'', fr', hR', hs', hfn', hl'⟩ := leavesQ_steps ds w' { { { fr with defers := ds } with mode := .returning } with mode := settle .returning } cs rfl rfl ht hf hk hR
    exact ⟨e', w'', fr', hR', Comes.of_steps (.head s1 (Steps.trans hsteps (.one s2))) hs', hfn', hl'⟩

def bodyQ (P : Program) (fn : Func) (R : Ending → World → Prop) : Exit → Act → World → Prop
  | .normal, a, w | .ret, a, w => LeavesQ P fn a.tmps R a.defers w
  | _, _, _ => False

theorem calls_of_wpQ {P : Program} {f : FuncId} {fn : Func} {c : Code} {args : Array Value} {w : World} {R : Ending → World → Prop} (hf : P.funcs[f]? = some fn) (hb : fn.body = some c)
    (h : c.wpIn (Fc none) 0 P (bodyQ P fn R) { tmps := args ++ Array.replicate (fn.ntmps - args.size) undef, defers := [] } w) : Calls P f args w R := by
  intro cs
  let b : Frame := { (default : Frame) with fn := f, kind := .normal }
  have henter : Frame.enter P f args .normal = b.at { tmps := args ++ Array.replicate (fn.ntmps - args.size) undef, defers := [] } [.code c] := by
    simp [Frame.enter, Frame.at, hf, hb, b]
  obtain ⟨e, a', w', hq, harr⟩ := ((wpIn_wide (n := 0)).1 h) b [] cs
  rw [← henter] at harr
  cases e with
  | normal =>
    obtain ⟨e', w'', fr', hR, hs, hfn, hl⟩ := leavesQ_steps a'.defers w' { b.at a' [] with mode := .returning } cs rfl rfl rfl hf rfl hq
    exact ⟨e', w'', fr', hR, Comes.of_steps (Steps.trans harr (.one step_end)) hs, hfn, hl⟩
  | ret =>
    obtain ⟨todo, hs₀⟩ := harr
    obtain ⟨e', w'', fr', hR, hs, hfn, hl⟩ := leavesQ_steps a'.defers w' { b.at a' todo with mode := .returning } cs rfl rfl rfl hf rfl hq
    exact ⟨e', w'', fr', hR, Comes.of_steps hs₀ hs, hfn, hl⟩
  | panic chain => exact hq.elim
  | exit id => exact hq.elim
  | goto l => exact hq.elim
  | outgrown => exact hq.elim

/-! ### Texts -/

def Ex.out : Ex → Exit
  | .normal => .normal
  | .exit i => .exit i
  | .goto l => .goto l
  | .ret => .ret

def codeOK (plans : Plans) : Code → Bool
  | .region id ops draw => bif draw then (match plans id with
    | some (m, π) => planB ops (fun i => m.getD i 0) π
    | none => true) else true
  | .seq a b => codeOK plans a && codeOK plans b
  | .cond _ a b => codeOK plans a && codeOK plans b
  | .block _ c => codeOK plans c
  | .loop c => codeOK plans c
  | .scope c => codeOK plans c
  | _ => true

theorem codeOK_calm {plans : Plans} : ∀ (c : Code), calm c = true → codeOK plans c = true
  | .region _ _ draw, h => by
    cases draw with
    | true => cases h
    | false => rfl
  | .seq a b, h => by
    simp only [calm, Bool.and_eq_true] at h
    simp only [codeOK, Bool.and_eq_true]
    exact ⟨codeOK_calm a h.1, codeOK_calm b h.2⟩
  | .cond _ a b, h => by
    simp only [calm, Bool.and_eq_true] at h
    simp only [codeOK, Bool.and_eq_true]
    exact ⟨codeOK_calm a h.1, codeOK_calm b h.2⟩
  | .block _ c, h => by simpa only [codeOK] using codeOK_calm c (by simpa only [calm] using h)
  | .loop c, h => by simpa only [codeOK] using codeOK_calm c (by simpa only [calm] using h)
  | .scope c, h => by simpa only [codeOK] using codeOK_calm c (by simpa only [calm] using h)
  | .skip, _ => rfl
  | .rangeFunc _ _ _ _, _ => rfl
  | .exit _, _ => rfl
  | .label _, _ => rfl
  | .goto _, _ => rfl
  | .ret, _ => rfl
  | .refuse _, _ => rfl

section
variable {P : Program} {ρ : Option Nat} {n : Nat} {F : HP} {ι0 : Env} {call : CallR}

theorem JS_mono {st : St} {G G' : Act → World → Prop} (h : JS n F ι0 st G) (g : ∀ a w, G a w → G' a w) : JS n F ι0 st G' := fun ι rs ds gd R hD => J_mono (h ι rs ds gd R hD) g

theorem exitTo_scope {id : Nat} {c : Code} {k : List Item} : exitTo id (.inScope c :: k) = exitTo id k := by simp [exitTo]

theorem wp_scope_none {c : Code} {Q : Exit → Act → World → Prop} {a : Act} {w : World} (h : c.wpIn (Fc ρ) 0 P (fun e a w => match e with | .goto _ => False | e => Q e a w) a w) : (Code.scope c).wpIn (Fc ρ) 0 P Q a w := by
  intro b k cs hro hb hr
  obtain ⟨e, a₁, w₁, hq, harr⟩ := h b (.inScope c :: k) cs hro hb hr
  have s0 : step P (lone (b.atR a (.code (.scope c) :: k)) cs w) = .next (lone (b.atR a (.code c :: .inScope c :: k)) cs w) := step_lone_go (by simp [stepG, stepG.exec, Frame.atR])
  have s1 : ∀ a w, step P (lone (b.atR a (.inScope c :: k)) cs w) = .next (lone (b.atR a k) cs w) := fun a w => step_lone_go (by simp [stepG, stepG.exec, Frame.atR])
  have f0 : StepsIn (Machine.fenced P (Fc ρ)) P (lone (b.atR a (.code (.scope c) :: k)) cs w) (lone (b.atR a (.code c :: .inScope c :: k)) cs w) := .one (fenced_wide P _) s0
  have f1 : ∀ a w, StepsIn (Machine.fenced P (Fc ρ)) P (lone (b.atR a (.inScope c :: k)) cs w) (lone (b.atR a k) cs w) := fun a w => .one (fenced_wide P _) (s1 a w)
  refine ⟨e, a₁, w₁, ?_, .of_steps f0 ?_⟩
  · cases e <;> first | exact hq | exact hq.elim
  · cases e with
    | normal => exact StepsIn.trans harr (f1 _ _)
    | exit id => exact ⟨fun k' hk => harr.1 k' (by rw [exitTo_scope]; exact hk), fun h1 h2 => harr.2 h1 (by rw [exitTo_scope]; exact h2)⟩
    | goto l' => exact hq.elim
    | ret => exact harr
    | panic ch => exact harr
    | outgrown => exact harr

/-! What a frame's deferred calls may be stays. -/

theorem wantS_kind {ops : Array Oper} {st st' : St} {g : Option (Nat × Bool)} {b : Bool} (h : wantS ops st g = some (b, st')) (hρ : Kind ρ st.defs) : Kind ρ st'.defs := by
  rw [(wantS_ok h).2.1]; exact hρ

theorem opsS_kind {ops : Array Oper} : ∀ {l : List Oper} {st st' : St}, Kind ρ st.defs → opsS P call n ops l st = some st' → Kind ρ st'.defs
  | [], st, st', hρ, h => by simp only [opsS, Option.some.injEq] at h; subst h; exact hρ
  | o :: l, st, st', hρ, h => by
    simp only [opsS] at h
    split at h
    · rename_i hw
      split at h
      rotate_left
      · cases h
      rename_i st1 h1
      exact opsS_kind (opS_kind (wantS_kind hw hρ) h1) h
    · rename_i st0 hw
      split at h
      rotate_left
      · cases h
      simp only [Bool.cond_eq_ite] at h
      split at h
      rotate_left
      · cases h
      rename_i d _ _
      have h0 : Kind ρ st0.defs := wantS_kind hw hρ
      exact opsS_kind (st := st0.put d (.v undef)) h0 h
    · cases h

theorem planS_kind {ops : Array Oper} {m : List Nat} : ∀ {π : List DStep} {s : PS} {st' : St}, Kind ρ s.1.defs → planS P call n ops m π s = some st' → Kind ρ st'.defs
  | [], s, st', hρ, h => by simp only [planS, Option.some.injEq] at h; subst h; exact hρ
  | x :: π, s, st', hρ, h => by
    simp only [planS] at h
    split at h
    rotate_left
    · cases h
    rename_i s1 h1
    refine planS_kind (?_ : Kind ρ s1.1.defs) h
    cases x with
    | q i =>
      simp only [stepP] at h1
      unfold stepQ at h1
      simp only [Bool.cond_eq_ite] at h1
      split at h1
      rotate_left
      · cases h1
      split at h1
      · rename_i hw
        have := wantS_kind hw hρ
        repeat' (split at h1)
        all_goals first | (cases h1; exact this) | cases h1
      · rename_i hw
        have := wantS_kind hw hρ
        repeat' (split at h1)
        all_goals first | (cases h1; exact this) | cases h1
      · cases h1
    | ann i =>
      simp only [stepP] at h1
      unfold stepA at h1
      simp only [Bool.cond_eq_ite] at h1
      repeat' (split at h1)
      all_goals first | (cases h1; exact hρ) | cases h1
    | take i =>
      simp only [stepP] at h1
      unfold stepT at h1
      simp only [Bool.cond_eq_ite] at h1
      repeat' (split at h1)
      all_goals first | (cases h1; exact hρ) | cases h1
    | eff i =>
      simp only [stepP] at h1
      unfold stepE at h1
      simp only [Bool.cond_eq_ite] at h1
      split at h1
      rotate_left
      · cases h1
      split at h1
      · rename_i hw
        have := wantS_kind hw hρ
        split at h1
        · cases h1
        · split at h1
          rotate_left
          · cases h1
          rename_i hop
          split at h1
          rotate_left
          · cases h1
          cases h1
          have hk := opS_kind this hop
          exact hk
      · rename_i hw
        have := wantS_kind hw hρ
        repeat' (split at h1)
        all_goals first | (cases h1; exact this) | cases h1
      · cases h1

theorem codeS_kind {plans : FuncId → Plans} {fid : FuncId} {fuel : Nat} {jump : Code → St → Option (Ex × St)} (hj : ∀ c {st st' : St} {ex : Ex}, Kind ρ st.defs → jump c st = some (ex, st') → Kind ρ st'.defs) : ∀ (c : Code) {st st' : St} {ex : Ex}, Kind ρ st.defs → codeS P call n plans fid fuel jump c st = some (ex, st') → Kind ρ st'.defs
  | .skip, st, st', ex, hρ, h => by simp only [codeS, Option.some.injEq, Prod.mk.injEq] at h; obtain ⟨rfl, rfl⟩ := h; exact hρ
  | .exit _, st, st', ex, hρ, h => by simp only [codeS, Option.some.injEq, Prod.mk.injEq] at h; obtain ⟨rfl, rfl⟩ := h; exact hρ
  | .label _, st, st', ex, hρ, h => by simp only [codeS, Option.some.injEq, Prod.mk.injEq] at h; obtain ⟨rfl, rfl⟩ := h; exact hρ
  | .goto _, st, st', ex, hρ, h => by simp only [codeS, Option.some.injEq, Prod.mk.injEq] at h; obtain ⟨rfl, rfl⟩ := h; exact hρ
  | .ret, st, st', ex, hρ, h => by simp only [codeS, Option.some.injEq, Prod.mk.injEq] at h; obtain ⟨rfl, rfl⟩ := h; exact hρ
  | .refuse _, st, st', ex, hρ, h => by simp [codeS] at h
  | .region id ops draw, st, st', ex, hρ, h => by
    simp only [codeS] at h
    cases draw with
    | true =>
      simp only [cond_true] at h
      split at h
      rotate_left
      · cases h
      split at h
      rotate_left
      · cases h
      rename_i hs
      simp only [Option.some.injEq, Prod.mk.injEq] at h
      obtain ⟨rfl, rfl⟩ := h
      exact planS_kind (s := (st, [], [])) hρ hs
    | false =>
      simp only [cond_false] at h
      split at h
      rotate_left
      · cases h
      rename_i hs
      simp only [Option.some.injEq, Prod.mk.injEq] at h
      obtain ⟨rfl, rfl⟩ := h
      exact opsS_kind hρ hs
  | .seq x y, st, st', ex, hρ, h => by
    simp only [codeS] at h
    split at h
    · rename_i st1 h1
      exact codeS_kind hj y (codeS_kind hj x hρ h1) h
    · exact codeS_kind hj x hρ h
  | .cond (.tmp c) x y, st, st', ex, hρ, h => by
    simp only [codeS] at h
    split at h
    · rename_i st0 ha
      exact codeS_kind hj x (by rw [(askB_ok ha).2.1]; exact hρ) h
    · rename_i st0 ha
      exact codeS_kind hj y (by rw [(askB_ok ha).2.1]; exact hρ) h
    · cases h
  | .cond (.const v) x y, st, st', ex, hρ, h => by
    simp only [codeS] at h
    split at h
    · exact codeS_kind hj x hρ h
    · exact codeS_kind hj y hρ h
    · cases h
  | .cond (.global _) x y, st, st', ex, hρ, h => by simp [codeS] at h
  | .cond (.func _) x y, st, st', ex, hρ, h => by simp [codeS] at h
  | .block id c, st, st', ex, hρ, h => by
    simp only [codeS] at h
    split at h
    · rename_i i st1 h1
      simp only [Bool.cond_eq_ite] at h
      split at h <;> (simp only [Option.some.injEq, Prod.mk.injEq] at h; obtain ⟨rfl, rfl⟩ := h; exact codeS_kind hj c hρ h1)
    · exact codeS_kind hj c hρ h
  | .loop c, st, st', ex, hρ, h => by
    simp only [codeS] at h
    have key : ∀ (j : Nat) (st : St), Kind ρ st.defs → loopS (codeS P call n plans fid fuel jump c) j st = some (ex, st') → Kind ρ st'.defs := by
      intro j
      induction j with
      | zero => intro st _ h; simp [loopS] at h
      | succ j ih =>
        intro st hρ h
        simp only [loopS] at h
        split at h
        · rename_i st1 h1
          exact ih st1 (codeS_kind hj c hρ h1) h
        · exact codeS_kind hj c hρ h
    exact key fuel st hρ h
  | .scope c, st, st', ex, hρ, h => by
    simp only [codeS] at h
    split at h
    · rename_i l st1 h1
      have k1 := codeS_kind hj c hρ h1
      split at h
      rotate_left
      · cases h
      split at h
      · cases h
      · exact hj _ k1 h
    · exact codeS_kind hj c hρ h
  | .rangeFunc g ps assign body, st, st', ex, hρ, h => by
    rcases hρ with hρ | hρ
    · exact .inl hρ
    · simp only [codeS] at h
      rw [hρ] at h; cases h

theorem loopS_grows {f : St → Option (Ex × St)} (hf : ∀ st ex st', f st = some (ex, st') → Grows st.hp st'.hp) : ∀ (k : Nat) {st st' : St} {ex : Ex}, loopS f k st = some (ex, st') → Grows st.hp st'.hp
  | 0, st, st', ex, h => by simp [loopS] at h
  | k + 1, st, st', ex, h => by
    simp only [loopS] at h
    split at h
    · rename_i st1 h1
      exact (hf _ _ _ h1).trans (loopS_grows hf k h)
    · exact hf _ _ _ h

theorem endLoopS_conds {st st' : St} {ex : Ex} {v : SV} {h' : Hp} (h : endLoopS st (some (v, h')) = some (ex, st')) : st'.hp.conds = h'.conds := by
  simp only [endLoopS] at h
  repeat' (split at h)
  all_goals first | (cases h; rfl) | cases h

theorem codeS_grows (hc : CallOK P call) {plans : FuncId → Plans} {fid : FuncId} {fuel : Nat} {jump : Code → St → Option (Ex × St)} (hj : ∀ c {st st' : St} {ex : Ex}, jump c st = some (ex, st') → Grows st.hp st'.hp) : ∀ (c : Code) {st st' : St} {ex : Ex}, codeS P call n plans fid fuel jump c st = some (ex, st') → Grows st.hp st'.hp
  | .skip, st, st', ex, h => by simp only [codeS, Option.some.injEq, Prod.mk.injEq] at h; obtain ⟨rfl, rfl⟩ := h; exact .refl _
  | .exit _, st, st', ex, h => by simp only [codeS, Option.some.injEq, Prod.mk.injEq] at h; obtain ⟨rfl, rfl⟩ := h; exact .refl _
  | .label _, st, st', ex, h => by simp only [codeS, Option.some.injEq, Prod.mk.injEq] at h; obtain ⟨rfl, rfl⟩ := h; exact .refl _
  | .goto _, st, st', ex, h => by simp only [codeS, Option.some.injEq, Prod.mk.injEq] at h; obtain ⟨rfl, rfl⟩ := h; exact .refl _
  | .ret, st, st', ex, h => by simp only [codeS, Option.some.injEq, Prod.mk.injEq] at h; obtain ⟨rfl, rfl⟩ := h; exact .refl _
  | .refuse _, st, st', ex, h => by simp [codeS] at h
  | .region id ops draw, st, st', ex, h => by
    simp only [codeS] at h
    cases draw with
    | true =>
      simp only [cond_true] at h
      split at h
      rotate_left
      · cases h
      split at h
      rotate_left
      · cases h
      rename_i hs
      simp only [Option.some.injEq, Prod.mk.injEq] at h
      obtain ⟨rfl, rfl⟩ := h
      exact planS_grows hc hs
    | false =>
      simp only [cond_false] at h
      split at h
      rotate_left
      · cases h
      rename_i hs
      simp only [Option.some.injEq, Prod.mk.injEq] at h
      obtain ⟨rfl, rfl⟩ := h
      exact opsS_grows hc hs
  | .seq x y, st, st', ex, h => by
    simp only [codeS] at h
    split at h
    · rename_i st1 h1
      exact (codeS_grows hc hj x h1).trans (codeS_grows hc hj y h)
    · exact codeS_grows hc hj x h
  | .cond (.tmp c) x y, st, st', ex, h => by
    simp only [codeS] at h
    split at h
    · rename_i st0 ha
      exact (askB_ok ha).1.trans (codeS_grows hc hj x h)
    · rename_i st0 ha
      exact (askB_ok ha).1.trans (codeS_grows hc hj y h)
    · cases h
  | .cond (.const v) x y, st, st', ex, h => by
    simp only [codeS] at h
    split at h
    · exact codeS_grows hc hj x h
    · exact codeS_grows hc hj y h
    · cases h
  | .cond (.global _) x y, st, st', ex, h => by simp [codeS] at h
  | .cond (.func _) x y, st, st', ex, h => by simp [codeS] at h
  | .block id c, st, st', ex, h => by
    simp only [codeS] at h
    split at h
    · rename_i i st1 h1
      simp only [Bool.cond_eq_ite] at h
      split at h <;> (simp only [Option.some.injEq, Prod.mk.injEq] at h; obtain ⟨rfl, rfl⟩ := h; exact codeS_grows hc hj c h1)
    · exact codeS_grows hc hj c h
  | .loop c, st, st', ex, h => by
    simp only [codeS] at h
    exact loopS_grows (fun _ _ _ => codeS_grows hc hj c) fuel h
  | .scope c, st, st', ex, h => by
    simp only [codeS] at h
    split at h
    · rename_i l st1 h1
      have k1 := codeS_grows hc hj c h1
      split at h
      rotate_left
      · cases h
      split at h
      · cases h
      · exact k1.trans (hj _ h)
    · exact codeS_grows hc hj c h
  | .rangeFunc g ps assign body, st, st', ex, h => by
    simp only [codeS, Bool.cond_eq_ite] at h
    split at h
    · cases h
    split at h
    rotate_left
    · cases h
    rename_i gf fs lb hg
    split at h
    rotate_left
    · cases h
    cases hcl : call (.fn gf) (fs ++ (.yld (st.hp.next + 1) :: lb)) { st.hp with t := (st.hp.t.set deep st.hp.next (.dfr true)).set deep (st.hp.next + 1) (.loop fid n st.regs ps.toList assign body st.hp.next .ready), next := st.hp.next + 2 } with
    | none => rw [hcl] at h; simp [endLoopS] at h
    | some vh =>
      obtain ⟨v, h'⟩ := vh
      rw [hcl] at h
      exact (Grows.trans (Grows.same rfl) (hc.grows _ _ _ _ _ hcl)).trans (.same (endLoopS_conds h))

theorem findLabel_ok {plans : Plans} : ∀ {c rest : Code} {l : Nat}, findLabel c l = some rest → codeOK plans c = true → codeOK plans rest = true
  | .seq a b, rest, l, h, ok => by
    simp only [codeOK, Bool.and_eq_true] at ok
    simp only [findLabel] at h
    split at h
    · rename_i r hr
      simp only [Option.some.injEq] at h; subst h
      simp only [codeOK, Bool.and_eq_true]
      exact ⟨findLabel_ok hr ok.1, ok.2⟩
    · exact findLabel_ok h ok.2
  | .label l', rest, l, h, ok => by
    simp only [findLabel] at h
    split at h <;> simp at h
    subst h; rfl
  | .skip, rest, l, h, ok => by simp [findLabel] at h
  | .region _ _ _, rest, l, h, ok => by simp [findLabel] at h
  | .cond _ _ _, rest, l, h, ok => by simp [findLabel] at h
  | .block _ _, rest, l, h, ok => by simp [findLabel] at h
  | .loop _, rest, l, h, ok => by simp [findLabel] at h
  | .rangeFunc _ _ _ _, rest, l, h, ok => by simp [findLabel] at h
  | .exit _, rest, l, h, ok => by simp [findLabel] at h
  | .scope _, rest, l, h, ok => by simp [findLabel] at h
  | .goto _, rest, l, h, ok => by simp [findLabel] at h
  | .ret, rest, l, h, ok => by simp [findLabel] at h
  | .refuse _, rest, l, h, ok => by simp [findLabel] at h

/-- What is behind a jump is shown right. -/
structure JumpOK (P : Program) (ρ : Option Nat) (n : Nat) (F : HP) (ι0 : Env) (plans : Plans) (jump : Code → St → Option (Ex × St)) : Prop where
  kind : ∀ c {st st' : St} {ex : Ex}, Kind ρ st.defs → jump c st = some (ex, st') → Kind ρ st'.defs
  grows : ∀ c {st st' : St} {ex : Ex}, jump c st = some (ex, st') → Grows st.hp st'.hp
  ok : ∀ c, codeOK plans c = true → ∀ {st st' : St} {ex : Ex} {Q : Exit → Act → World → Prop}, Kind ρ st.defs → jump c st = some (ex, st') → Holds st'.hp → JS n F ι0 st' (Q ex.out) → JS n F ι0 st (c.wpIn (Fc ρ) 0 P Q)

theorem codeS_ok (hc : CallOK P call) (hm : P.follows .mixedOrders = true) (hn : n < 2 ^ deep) {plans : FuncId → Plans} {fid : FuncId} {fuel : Nat} {jump : Code → St → Option (Ex × St)} (hj : JumpOK P ρ n F ι0 (plans fid) jump) : ∀ (c : Code), codeOK (plans fid) c = true → ∀ {st st' : St} {ex : Ex} {Q : Exit → Act → World → Prop},
    Kind ρ st.defs → codeS P call n plans fid fuel jump c st = some (ex, st') → Holds st'.hp → JS n F ι0 st' (Q ex.out) → JS n F ι0 st (c.wpIn (Fc ρ) 0 P Q)
  | .skip, _, st, st', ex, Q, hρ, h, ho, k => by
    simp only [codeS, Option.some.injEq, Prod.mk.injEq] at h
    obtain ⟨rfl, rfl⟩ := h
    exact fun ι rs ds g R hD => J_skip (k ι rs ds g R hD)
  | .region id ops draw, hok, st, st', ex, Q, hρ, h, ho, k => by
    simp only [codeS] at h
    cases draw with
    | true =>
      simp only [cond_true] at h
      split at h
      rotate_left
      · cases h
      rename_i m π hp
      split at h
      rotate_left
      · cases h
      rename_i st1 hs
      simp only [Option.some.injEq, Prod.mk.injEq] at h
      obtain ⟨rfl, rfl⟩ := h
      simp only [codeOK, cond_true, hp] at hok
      exact planS_ok hc ho hρ hn hm hok hs k
    | false =>
      simp only [cond_false] at h
      split at h
      rotate_left
      · cases h
      rename_i st1 hs
      simp only [Option.some.injEq, Prod.mk.injEq] at h
      obtain ⟨rfl, rfl⟩ := h
      intro ι rs ds g R hD
      have := opsS_ok (F := F) (ι0 := ι0) (ops := ops.toList.toArray) (Q := Q) hc hn (l := ops.toList) hρ (by simpa using hs) ho k ι rs ds g R hD
      have := J_region (id := id) this
      simpa using this
  | .seq x y, hok, st, st', ex, Q, hρ, h, ho, k => by
    simp only [codeOK, Bool.and_eq_true] at hok
    simp only [codeS] at h
    split at h
    · rename_i st1 h1
      have ih := codeS_ok hc hm hn hj y hok.2 (codeS_kind hj.kind x hρ h1) h ho k
      have := codeS_ok hc hm hn hj x hok.1 (Q := Exit.then (y.wpIn (Fc ρ) 0 P Q) Q) hρ h1 ((codeS_grows hc hj.grows y h).holds ho) ih
      exact JS_mono this fun a w => wpIn_seq
    · rename_i r hr
      have hne : ex ≠ .normal := fun e => by subst e; exact hr _ h
      have := codeS_ok hc hm hn hj x hok.1 (Q := Exit.then (y.wpIn (Fc ρ) 0 P Q) Q) hρ h ho (by cases ex <;> first | exact absurd rfl hne | exact k)
      exact JS_mono this fun a w => wpIn_seq
  | .cond (.tmp c) x y, hok, st, st', ex, Q, hρ, h, ho, k => by
    simp only [codeOK, Bool.and_eq_true] at hok
    simp only [codeS] at h
    split at h
    · rename_i st0 ha
      obtain ⟨w1, w2, w3, w4, w5⟩ := askB_ok ha
      have ih := codeS_ok hc hm hn hj x hok.1 (by rw [w2]; exact hρ) h ho k
      intro ι rs ds g R hD
      obtain ⟨R0, hl⟩ := w5 ((codeS_grows hc hj.grows x h).holds ho) R
      have := ih ι rs ds ⟨g.ext, by rw [w4]; exact g.fresh, by rw [w4]; exact g.small⟩ R0 (by rw [w2]; exact hD)
      rw [w3] at this
      exact J_condT hl this
    · rename_i st0 ha
      obtain ⟨w1, w2, w3, w4, w5⟩ := askB_ok ha
      have ih := codeS_ok hc hm hn hj y hok.2 (by rw [w2]; exact hρ) h ho k
      intro ι rs ds g R hD
      obtain ⟨R0, hl⟩ := w5 ((codeS_grows hc hj.grows y h).holds ho) R
      have := ih ι rs ds ⟨g.ext, by rw [w4]; exact g.fresh, by rw [w4]; exact g.small⟩ R0 (by rw [w2]; exact hD)
      rw [w3] at this
      exact J_condF hl this
    · cases h
  | .cond (.const v) x y, hok, st, st', ex, Q, hρ, h, ho, k => by
    simp only [codeOK, Bool.and_eq_true] at hok
    simp only [codeS] at h
    split at h
    · exact fun ι rs ds g R hD => J_condT rfl (codeS_ok hc hm hn hj x hok.1 hρ h ho k ι rs ds g R hD)
    · exact fun ι rs ds g R hD => J_condF rfl (codeS_ok hc hm hn hj y hok.2 hρ h ho k ι rs ds g R hD)
    · cases h
  | .cond (.global _) x y, _, st, st', ex, Q, hρ, h, ho, k => by simp [codeS] at h
  | .cond (.func _) x y, _, st, st', ex, Q, hρ, h, ho, k => by simp [codeS] at h
  | .block id c, hok, st, st', ex, Q, hρ, h, ho, k => by
    simp only [codeOK] at hok
    simp only [codeS] at h
    have fin : JS n F ι0 st (c.wpIn (Fc ρ) 0 P (Exit.inBlock id Q)) → JS n F ι0 st ((Code.block id c).wpIn (Fc ρ) 0 P Q) := fun h => JS_mono h fun a w => wpIn_block
    split at h
    · rename_i i st1 h1
      cases hb : Nat.beq i id with
      | true =>
        rw [hb, cond_true] at h
        simp only [Option.some.injEq, Prod.mk.injEq] at h
        obtain ⟨rfl, rfl⟩ := h
        have := Nat.eq_of_beq_eq_true hb
        subst this
        exact fin (codeS_ok hc hm hn hj c hok hρ h1 ho (JS_mono k fun a w q => by simpa [Exit.inBlock, Ex.out] using q))
      | false =>
        rw [hb, cond_false] at h
        simp only [Option.some.injEq, Prod.mk.injEq] at h
        obtain ⟨rfl, rfl⟩ := h
        have hne := Nat.ne_of_beq_eq_false hb
        exact fin (codeS_ok hc hm hn hj c hok hρ h1 ho (JS_mono k fun a w q => by simpa [Exit.inBlock, Ex.out, hne] using q))
    · rename_i r hr
      refine fin (codeS_ok hc hm hn hj c hok hρ h ho (JS_mono k fun a w q => ?_))
      cases ex with
      | exit i => exact absurd h (hr i st')
      | normal => exact q
      | goto l => exact q
      | ret => exact q
  | .loop c, hok, st, st', ex, Q, hρ, h, ho, k => by
    simp only [codeOK] at hok
    simp only [codeS] at h
    have key : ∀ (j : Nat) (st : St), Kind ρ st.defs → loopS (codeS P call n plans fid fuel jump c) j st = some (ex, st') → JS n F ι0 st (Code.roundsIn (Fc ρ) 0 P c Q j) := by
      intro j
      induction j with
      | zero => intro st _ h; simp [loopS] at h
      | succ j ih =>
        intro st hρ h
        rw [show Code.roundsIn (Fc ρ) 0 P c Q (j + 1) = c.wpIn (Fc ρ) 0 P (Exit.then (Code.roundsIn (Fc ρ) 0 P c Q j) Q) from funext fun a => funext fun w => roundsIn_succ]
        simp only [loopS] at h
        split at h
        · rename_i st1 h1
          exact codeS_ok hc hm hn hj c hok (Q := Exit.then (Code.roundsIn (Fc ρ) 0 P c Q j) Q) hρ h1 ((loopS_grows (fun _ _ _ => codeS_grows hc hj.grows c) j h).holds ho) (ih st1 (codeS_kind hj.kind c hρ h1) h)
        · rename_i r hr
          have hne : ex ≠ .normal := fun e => by subst e; exact hr _ h
          exact codeS_ok hc hm hn hj c hok (Q := Exit.then (Code.roundsIn (Fc ρ) 0 P c Q j) Q) hρ h ho (by cases ex <;> first | exact absurd rfl hne | exact k)
    exact JS_mono (key fuel st hρ h) fun a w q => wpIn_loop_rounds fuel q
  | .exit id, _, st, st', ex, Q, hρ, h, ho, k => by
    simp only [codeS, Option.some.injEq, Prod.mk.injEq] at h
    obtain ⟨rfl, rfl⟩ := h
    exact fun ι rs ds g R hD => J_exit (k ι rs ds g R hD)
  | .label id, _, st, st', ex, Q, hρ, h, ho, k => by
    simp only [codeS, Option.some.injEq, Prod.mk.injEq] at h
    obtain ⟨rfl, rfl⟩ := h
    exact fun ι rs ds g R hD => J_label (k ι rs ds g R hD)
  | .goto id, _, st, st', ex, Q, hρ, h, ho, k => by
    simp only [codeS, Option.some.injEq, Prod.mk.injEq] at h
    obtain ⟨rfl, rfl⟩ := h
    exact fun ι rs ds g R hD => J_goto (k ι rs ds g R hD)
  | .ret, _, st, st', ex, Q, hρ, h, ho, k => by
    simp only [codeS, Option.some.injEq, Prod.mk.injEq] at h
    obtain ⟨rfl, rfl⟩ := h
    exact fun ι rs ds g R hD => J_ret (k ι rs ds g R hD)
  | .scope c, hok, st, st', ex, Q, hρ, h, ho, k => by
    simp only [codeOK] at hok
    simp only [codeS] at h
    split at h
    · rename_i l st1 h1
      have k1 := codeS_kind hj.kind c hρ h1
      split at h
      rotate_left
      · cases h
      rename_i rest hf
      split at h
      · cases h
      · rename_i r hr
        have ok2 := hj.ok rest (findLabel_ok hf hok) (Q := noGo Q) k1 h ho (by
          cases ex with
          | goto l => exact absurd h (hr l st')
          | normal => exact k
          | exit i => exact k
          | ret => exact k)
        refine JS_mono (codeS_ok hc hm hn hj c hok (Q := jumpQ l (rest.wpIn (Fc ρ) 0 P (noGo Q)) Q) hρ h1 ((hj.grows _ h).holds ho) ?_) fun a w => wpIn_scope1 hf
        exact JS_mono ok2 fun a w q => ⟨rfl, q⟩
    · rename_i r hr
      refine JS_mono (codeS_ok hc hm hn hj c hok (Q := fun e a w => match e with | .goto _ => False | e => Q e a w) hρ h ho ?_) fun a w => wp_scope_none
      cases ex with
      | goto l => exact absurd h (hr l st')
      | normal => exact k
      | exit i => exact k
      | ret => exact k
  | .rangeFunc g ps assign body, _, st, st', ex, Q, hρ, h, ho, k => by
    simp only [codeS] at h
    cases hst : stopped st.defs with
    | true => rw [hst] at h; cases h
    | false =>
    have hρ : ρ = none := by rcases hρ with h | h; exact h; rw [hst] at h; cases h
    subst hρ
    rw [hst, cond_false] at h
    split at h
    rotate_left
    · cases h
    rename_i gf fs lb hg
    cases hok : (st.hp.ok && calm assign && calm body) with
    | false => rw [hok] at h; cases h
    | true =>
      rw [hok, cond_true] at h
      simp only [Bool.and_eq_true] at hok
      obtain ⟨⟨hok, hca⟩, hcb⟩ := hok
      cases hcl : call (.fn gf) (fs ++ (.yld (st.hp.next + 1) :: lb)) { st.hp with t := (st.hp.t.set deep st.hp.next (.dfr true)).set deep (st.hp.next + 1) (.loop fid n st.regs ps.toList assign body st.hp.next .ready), next := st.hp.next + 2 } with
      | none => rw [hcl] at h; simp [endLoopS] at h
      | some vh =>
      obtain ⟨v, h'⟩ := vh
      rw [hcl] at h
      obtain ⟨hcf, hcalls⟩ := hc.fn _ _ _ _ _ hcl
      intro ι rs ds gd R hD ac w rg s
      obtain ⟨fv, a2, a3⟩ := evalS_ok R hg
      obtain ⟨x, y, b1, b2, rfl⟩ := den_fn a2
      refine wp_rangeQ (gf := gf) (fs := x.toArray) (lb := y.toArray) (rg.eval a3) hcf fun r hr1 hr2 hr3 hr4 hr5 hr6 hr7 => ?_
      obtain ⟨gd1, e1⟩ := gd.add hok (ch := .dfr true) (w.heap.size, 0)
      have s1 := rep_new (w' := w.alloc (.deferred (some []))) (c := .dfr true) s (gd.fresh _ (Nat.le_refl _)) gd.small (cap := 0) (o := .deferred (some [])) rfl .alloc
      have hsm := Hp.small hok
      have hsz : (w.alloc (.deferred (some []))).heap.size = w.heap.size + 1 := World.size_alloc _ _
      have f2 : (ι.add st.hp.next (w.heap.size, 0)) (st.hp.next + 1) = none := gd1.fresh _ (Nat.le_refl _)
      have e2 : Ext (ι.add st.hp.next (w.heap.size, 0)) ((ι.add st.hp.next (w.heap.size, 0)).add (st.hp.next + 1) (w.heap.size + 1, 0)) := Env.add_ext f2
      have hloop : LoopIs ((ι.add st.hp.next (w.heap.size, 0)).add (st.hp.next + 1) (w.heap.size + 1, 0)) n st.regs ps.toList assign body st.hp.next .ready r := by
        refine ⟨by rw [hr3]; exact rg.size, fun t sv ht => ?_, ⟨(w.heap.size, 0), e2 _ _ (Env.add_self _ _ _), hr7⟩, by simp [hr4], hr5, hr6, hr1, hr2, hca, hcb⟩
        obtain ⟨u, k1, k2⟩ := R t sv ht
        exact ⟨u, den_mono (e1.trans e2) k1, by rw [hr3]; exact rg.at_ _ _ k2⟩
      have s3 := rep_new (w' := (w.alloc (.deferred (some []))).alloc (.loop r)) (b := st.hp.next + 1) (c := .loop fid n st.regs ps.toList assign body st.hp.next .ready) (cap := 0) (o := .loop r) s1 f2 (by omega) (by rw [hsz]; exact ⟨r, hloop, rfl⟩) .alloc
      rw [hsz] at s3
      generalize hι2 : (ι.add st.hp.next (w.heap.size, 0)).add (st.hp.next + 1) (w.heap.size + 1, 0) = ι2 at *
      have g2 : Good ι2 ι2 { st.hp with t := (st.hp.t.set deep st.hp.next (.dfr true)).set deep (st.hp.next + 1) (.loop fid n st.regs ps.toList assign body st.hp.next .ready), next := st.hp.next + 2 } := by
        refine ⟨.refl _, fun b hb => ?_, by simp only; omega⟩
        have hb' : st.hp.next + 2 ≤ b := hb
        subst hι2
        simp only [Env.add, if_neg (show b ≠ st.hp.next + 1 by omega), if_neg (show b ≠ st.hp.next by omega)]
        exact gd.fresh b (by omega)
      have hL : ι2 (st.hp.next + 1) = some (w.heap.size + 1, 0) := by subst hι2; exact Env.add_self _ _ _
      have hD2 : ι2 st.hp.next = some (w.heap.size, 0) := e2 _ _ (Env.add_self _ _ _)
      have hy : den ι2 (.yld (st.hp.next + 1)) = some (.func (.yield (w.heap.size + 1)) #[] #[]) := by simp [den, hL]
      have hargs := dens_append (dens_mono (e1.trans e2) b1) (dens_cons.2 ⟨_, _, hy, dens_mono (e1.trans e2) b2, rfl⟩)
      have hc2 := hcalls (Holds.same (endLoopS_conds h).symm ho) F ι2 _ g2 hargs _ s3
      have harr : (x ++ (.func (.yield (w.heap.size + 1)) #[] #[] :: y)).toArray = x.toArray ++ #[.func (.yield (w.heap.size + 1)) #[] #[]] ++ y.toArray := by simp
      rw [harr] at hc2
      refine hc2.mono ?_
      rintro e w' ⟨ι', vv, rfl, q1, q2, q3⟩
      have e3 := (e1.trans e2).trans q1.ext
      have hL' := q1.ext _ _ hL
      have hDs := denD_mono e3 hD
      have hDcol : denD ι' (.col st.hp.next :: st.defs) = some (⟨.collected w.heap.size, #[]⟩ :: ds) := denD_col.2 ⟨(w.heap.size, 0), ds, q1.ext _ _ hD2, hDs, rfl⟩
      simp only [endLoopS] at h
      -- what the loop's record has come to
      have fin : ∀ {fid' n' : Nat} {rg' : Tri SV} {ps' : List Nat} {asg' body' : Code} {d' : Nat} {s0 : LS} {j : Option Code}, h'.t.get (st.hp.next + 1) = some (.loop fid' n' rg' ps' asg' body' d' s0) → s0.pend = j → s0.state ≠ .busy →
          ∃ r', w'.heap[w.heap.size + 1]? = some (.loop r') ∧ r'.state ≠ .busy ∧ r'.pending = j ∧
            Sat (setB w' (w.heap.size + 1) (.loop { r' with state := .exhausted })) (stars [F, rep ι' (h'.set (st.hp.next + 1) (.loop fid' n' rg' ps' asg' body' d' (.over j))).t]) := by
        intro fid' n' rg' ps' asg' body' d' s0 j hg hj hs0
        obtain ⟨p', o, k1, ⟨r', ⟨l1, l2, l3, l4, l5, l6, l7, l8, l9, l10⟩, rfl⟩, k3⟩ := rep_get (rep_frame q3) hg
        rw [hL'] at k1; cases k1
        refine ⟨r', k3, by rw [l7]; exact hs0, by rw [l8]; exact hj, ?_⟩
        exact rep_set (o' := .loop { r' with state := .exhausted }) q3 hg hL' (by omega) ⟨{ r' with state := .exhausted }, ⟨l1, l2, l3, l4, l5, l6, rfl, by rw [l8, hj]; rfl, l9, l10⟩, rfl⟩ (setB_at k3)
      split at h
      · rename_i fid' n' rg' ps' asg' body' d' hg'
        simp only [Option.some.injEq, Prod.mk.injEq] at h
        obtain ⟨rfl, rfl⟩ := h
        obtain ⟨r', k1, k2, k3, k4⟩ := fin hg' (j := none) rfl (by simp [LS.state])
        refine ⟨vv, r', rfl, k1, k2, ?_⟩
        rw [k3] at k4; rw [k3]
        exact k ι' rs _ ⟨gd.ext.trans e3, q1.fresh, q1.small⟩ (R.mono e3) hDcol _ _ ⟨rg.size, by simp [rg.defers], rg.at_⟩ k4
      · rename_i fid' n' rg' ps' asg' body' d' j hg'
        split at h
        · rename_i i
          simp only [Option.some.injEq, Prod.mk.injEq] at h
          obtain ⟨rfl, rfl⟩ := h
          obtain ⟨r', k1, k2, k3, k4⟩ := fin hg' (j := some (.exit i)) rfl (by simp [LS.state])
          refine ⟨vv, r', rfl, k1, k2, ?_⟩
          rw [k3] at k4; rw [k3]
          exact wpIn_exit (k ι' rs _ ⟨gd.ext.trans e3, q1.fresh, q1.small⟩ (R.mono e3) hDcol _ _ ⟨rg.size, by simp [rg.defers], rg.at_⟩ k4)
        · simp only [Option.some.injEq, Prod.mk.injEq] at h
          obtain ⟨rfl, rfl⟩ := h
          obtain ⟨r', k1, k2, k3, k4⟩ := fin hg' (j := some .ret) rfl (by simp [LS.state])
          refine ⟨vv, r', rfl, k1, k2, ?_⟩
          rw [k3] at k4; rw [k3]
          exact wpIn_ret (k ι' rs _ ⟨gd.ext.trans e3, q1.fresh, q1.small⟩ (R.mono e3) hDcol _ _ ⟨rg.size, by simp [rg.defers], rg.at_⟩ k4)
        · cases h
      · cases h
  | .refuse y, _, st, st', ex, Q, hρ, h, ho, k => by simp [codeS] at h

theorem codeJ_kind {plans : FuncId → Plans} {fid : FuncId} {fuel : Nat} : ∀ (k : Nat) (c : Code) {st st' : St} {ex : Ex}, Kind ρ st.defs → codeJ P call n plans fid fuel k c st = some (ex, st') → Kind ρ st'.defs
  | 0, c, _, _, _, hρ, h => codeS_kind (fun _ _ _ _ _ h => by cases h) c hρ h
  | k + 1, c, _, _, _, hρ, h => codeS_kind (fun c => codeJ_kind k c) c hρ h

theorem codeJ_grows (hc : CallOK P call) {plans : FuncId → Plans} {fid : FuncId} {fuel : Nat} : ∀ (k : Nat) (c : Code) {st st' : St} {ex : Ex}, codeJ P call n plans fid fuel k c st = some (ex, st') → Grows st.hp st'.hp
  | 0, c, _, _, _, h => codeS_grows hc (fun _ _ _ _ h => by cases h) c h
  | k + 1, c, _, _, _, h => codeS_grows hc (fun c => codeJ_grows hc k c) c h

theorem codeJ_ok (hc : CallOK P call) (hm : P.follows .mixedOrders = true) (hn : n < 2 ^ deep) {plans : FuncId → Plans} {fid : FuncId} {fuel : Nat} : ∀ (k : Nat) (c : Code), codeOK (plans fid) c = true → ∀ {st st' : St} {ex : Ex} {Q : Exit → Act → World → Prop},
    Kind ρ st.defs → codeJ P call n plans fid fuel k c st = some (ex, st') → Holds st'.hp → JS n F ι0 st' (Q ex.out) → JS n F ι0 st (c.wpIn (Fc ρ) 0 P Q)
  | 0, c, hok, _, _, _, _, hρ, h, ho, k => codeS_ok hc hm hn ⟨fun _ _ _ _ _ h => (by cases h), fun _ _ _ _ h => (by cases h), fun _ _ _ _ _ _ _ h => (by cases h)⟩ c hok hρ h ho k
  | j + 1, c, hok, _, _, _, _, hρ, h, ho, k => codeS_ok hc hm hn ⟨fun c => codeJ_kind j c, fun c => codeJ_grows hc j c, fun c => codeJ_ok hc hm hn j c⟩ c hok hρ h ho k

end
end Go.Ws
