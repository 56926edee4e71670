/- Calls to a depth, shown right. -/
import Derived.Test.YtgdioloappbjkaaGreatWsCode
set_option linter.unusedSectionVars false
set_option linter.unusedVariables false
set_option linter.unusedSimpArgs false
namespace Go.Ws
variable [A : Arrs]

/-- Functions that, called where a body returns, do nothing. -/
structure QuietOK (P : Program) (quiet : Quiet) : Prop where
  run : ∀ f, quiet f = true → ∀ (as : Array Value) (w : World), as.size ≤ 4 → (callFunc f as).run P w = .ok (.enter f as) w ∧
    CallsD P f as .returning w fun e u' w' => (∃ v, e = .returned v) ∧ u' = .returning ∧ ∀ p : HP, Sat w p → Sat w' p

section
variable {P : Program} {ρ : Option Nat} {n : Nat} {F : HP} {ι : Env}

theorem vLoad_needs {rg : Rg} {t : Tree} {T : TypeId} {x : Operand} {r : SV × List Fact} (h : evalV P rg t (.load T x) = some r) : needs r.2 = [] := by
  simp only [evalV] at h
  unfold vLoad at h
  repeat' (split at h)
  all_goals first | (cases h; rfl) | cases h

theorem resS_ok {st : St} {rs : List (Nat × Value)} {ds : List Deferred} {x : ResultVar} {sv : SV} (hd : HD ι st.hp.t) (R : RegsRel ι st.regs rs) (h : resS P st x = some sv) :
    ∃ v, den ι sv = some v ∧ ∀ a w, Regs n ds rs a → Sat w (stars [rep ι st.hp.t]) → (oneRes a.tmps x).run P w = .ok v w := by
  cases x with
  | tmp t =>
    obtain ⟨v, h1, h2⟩ := R t sv h
    exact ⟨v, h1, fun a w r _ => by simp only [oneRes, getD_of r h2]; rfl⟩
  | cell c T =>
    simp only [resS] at h
    split at h
    rotate_left
    · cases h
    rename_i v fs hv
    simp only [Option.some.injEq] at h; subst h
    obtain ⟨u, a1, a2, a3⟩ := evalV_ok (P := P) (n := n) (ds := ds) hd R hv (fun c hc => by rw [vLoad_needs hv] at hc; cases hc)
    refine ⟨u, a1, fun a w r s => ?_⟩
    have := a3 ⟨none, .load T (.tmp c), 0, "", #[], none⟩ rfl a w r (a2 w s)
    have e1 : a.eval (.tmp c) = a.tmps.getD c undef := rfl
    simp only [execOp, e1, Sem.run_bind] at this
    simp only [oneRes]
    unfold Instr.loadAt at this
    revert this
    cases ha : (a.tmps.getD c undef) with
    | pointer p =>
      cases p with
      | none => simp [ha, asAddr, Instr.sureAddr]
      | some p =>
        simp [ha, asAddr, Instr.sureAddr]
        intro hh
        revert hh
        cases (loadVar T p).run P w <;> simp
    | _ => simp [ha, asAddr, Instr.sureAddr]

theorem resSs_ok {st : St} {rs : List (Nat × Value)} {ds : List Deferred} (hd : HD ι st.hp.t) (R : RegsRel ι st.regs rs) : ∀ {l : List ResultVar} {svs : List SV}, resSs P st l = some svs →
    ∃ vs, dens ι svs = some vs ∧ ∀ a w, Regs n ds rs a → Sat w (stars [rep ι st.hp.t]) → (l.mapM (oneRes a.tmps)).run P w = .ok vs w
  | [], svs, h => by
    simp only [resSs, Option.some.injEq] at h; subst h
    exact ⟨[], rfl, fun a w _ _ => by simp⟩
  | x :: l, svs, h => by
    simp only [resSs] at h
    cases h1 : resS P st x with
    | none => simp [h1] at h
    | some v =>
      cases h2 : resSs P st l with
      | none => simp [h1, h2] at h
      | some k =>
        simp only [h1, h2, Option.some.injEq] at h; subst h
        obtain ⟨u, a1, a2⟩ := resS_ok (n := n) (ds := ds) hd R h1
        obtain ⟨us, b1, b2⟩ := resSs_ok (ds := ds) hd R h2
        refine ⟨u :: us, dens_cons.2 ⟨u, us, a1, b1, rfl⟩, fun a w r s => ?_⟩
        simp [List.mapM_cons, a2 a w r s, b2 a w r s]

theorem oneOf_den {svs : List SV} {vs : List Value} (h : dens ι svs = some vs) : den ι (oneOf svs) = some (if h : vs.toArray.size = 1 then vs.toArray[0] else .tuple vs.toArray) := by
  have hl := dens_len h
  match svs, h with
  | [], h => simp only [dens, Option.some.injEq] at h; subst h; simp [oneOf, den, dens]
  | [x], h =>
    obtain ⟨v, m, h1, h2, h3⟩ := dens_cons.1 h
    simp only [dens, Option.some.injEq] at h2; subst h2; subst h3
    simp [oneOf, h1]
  | x :: y :: l, h =>
    have : oneOf (x :: y :: l) = .tup (x :: y :: l) := rfl
    rw [this]
    simp only [den, h]
    simp
    intro hh; simp [hl] at hh

theorem regsS_rel : ∀ {args : List SV} {vs : List Value} {i : Nat}, dens ι args = some vs → i + args.length < 2 ^ deep → RegsRel ι (regsS i args) (regsOf i vs)
  | [], vs, i, h, _ => fun t sv hh => by simp [regsS, lookS, Tri.get_leaf] at hh
  | x :: l, vs, i, h, hl => by
    obtain ⟨v, m, h1, h2, h3⟩ := dens_cons.1 h
    subst h3
    simp only [List.length_cons] at hl
    exact (regsS_rel (i := i + 1) h2 (by omega)).put (by omega) h1

theorem endDefs_ok {quiet : Quiet} (hq : QuietOK P quiet) {fn : Func} {tmps : Array Value} {R : Ending → World → Prop} {ι0 : Env} : ∀ {defs : List Df} {h h' : Hp}, endDefs quiet defs h = some h' →
    ∀ {ds : List Deferred}, denD ι defs = some ds → Good ι0 ι h → (Good ι0 ι h' → ∀ w', Sat w' (stars [F, rep ι h'.t]) → ∃ v, (results fn tmps).run P w' = .ok v w' ∧ R (.returned v) w') →
    ∀ w, Sat w (stars [F, rep ι h.t]) → LeavesQ P fn tmps R ds w
  | [], h, h', e, ds, hD, g, k, w, s => by
    simp only [endDefs, Option.some.injEq] at e; subst e
    simp only [denD, Option.some.injEq] at hD; subst hD
    exact k g w s
  | .call f a c :: l, h, h', e, ds, hD, g, k, w, s => by
    obtain ⟨x, y, m, h1, h2, h3, rfl⟩ := denD_cons.1 hD
    simp only [endDefs] at e
    cases hb : (quiet f && Nat.ble (a.length + c.length) 4) with
    | false => rw [hb] at e; cases e
    | true =>
      rw [hb, cond_true] at e
      simp only [Bool.and_eq_true] at hb
      have hle := Nat.le_of_ble_eq_true hb.2
      obtain ⟨q1, q2⟩ := hq.run f hb.1 (x ++ y).toArray w (by have := dens_len h1; have := dens_len h2; simp; omega)
      refine ⟨f, (x ++ y).toArray, ?_, q2.mono ?_⟩
      · simp [invoke] at q1 ⊢; exact q1
      · rintro e u' w' ⟨⟨v, rfl⟩, rfl, hs⟩
        exact ⟨v, rfl, rfl, endDefs_ok hq e h3 g k w' (hs _ s)⟩
  | .stop :: l, h, h', e, ds, hD, g, k, w, s => by simp [endDefs] at e
  | .col b :: l, h, h', e, ds, hD, g, k, w, s => by
    obtain ⟨p, m, h1, h2, rfl⟩ := denD_col.1 hD
    simp only [endDefs] at e
    split at e
    rotate_left
    · cases e
    rename_i hb
    obtain ⟨p', o, a1, a2, a3⟩ := rep_get (rep_frame s) hb
    rw [h1] at a1; cases a1
    have a2' : o = .deferred (some []) := a2
    subst a2'
    have hlt : b < h.next := by
      rcases Nat.lt_or_ge b h.next with h' | h'
      · exact h'
      · rw [g.fresh b h'] at h1; cases h1
    refine ⟨a3, endDefs_ok hq e h2 ⟨g.ext, g.fresh, g.small⟩ k _ (rep_set s hb h1 (by have := g.small; omega) (c' := .dfr false) (o' := .deferred none) rfl (setB_at a3))⟩

theorem endDefs_conds {quiet : Quiet} : ∀ {defs : List Df} {h h' : Hp}, endDefs quiet defs h = some h' → h'.conds = h.conds
  | [], h, h', e => by simp only [endDefs, Option.some.injEq] at e; subst e; rfl
  | .call f a c :: l, h, h', e => by
    simp only [endDefs, Bool.cond_eq_ite] at e
    split at e
    · exact endDefs_conds e
    · cases e
  | .stop :: l, h, h', e => by simp [endDefs] at e
  | .col b :: l, h, h', e => by
    simp only [endDefs] at e
    split at e
    · exact (endDefs_conds e).trans rfl
    · cases e

/-! ### Rounds -/

theorem lookR_all : ∀ (l : List Value) (i t : Nat) (v : Value), l[t]? = some v → lookR (regsOf i l) (i + t) = some v
  | [], i, t, v, h => by simp at h
  | u :: l, i, 0, v, h => by
    simp only [regsOf, lookR, Nat.add_zero, Nat.beq_refl, cond_true]
    simpa using h
  | u :: l, i, t + 1, v, h => by
    have hb : Nat.beq i (i + (t + 1)) = false := by
      cases hb : Nat.beq i (i + (t + 1)) with
      | false => rfl
      | true => have := Nat.eq_of_beq_eq_true hb; omega
    simp only [regsOf, lookR, hb, cond_false]
    have := lookR_all l (i + 1) t v (by simpa using h)
    rwa [show i + 1 + t = i + (t + 1) from by omega] at this

theorem putPs_ok : ∀ {ps : List Nat} {args : List SV} {vs : List Value} {rg rg' : Rg} {rs : List (Nat × Value)} {tmps : Array Value}, putPs rg n ps args = some rg' → n < 2 ^ deep → dens ι args = some vs →
    RegsRel ι rg rs → Regs n [] rs { tmps := tmps, defers := [] } →
    ps.length = vs.length ∧ ∃ rs', RegsRel ι rg' rs' ∧ Regs n [] rs' { tmps := (ps.zip vs).foldl (fun tmps (x : Nat × Value) => tmps.setIfInBounds x.1 x.2) tmps, defers := [] }
  | [], [], vs, rg, rg', rs, tmps, h, hn, hd, R, r => by
    simp only [putPs, Option.some.injEq] at h; subst h
    simp only [dens, Option.some.injEq] at hd; subst hd
    exact ⟨rfl, rs, R, r⟩
  | [], _ :: _, vs, rg, rg', rs, tmps, h, hn, hd, R, r => by simp [putPs] at h
  | _ :: _, [], vs, rg, rg', rs, tmps, h, hn, hd, R, r => by simp [putPs] at h
  | p :: ps, x :: args, vs, rg, rg', rs, tmps, h, hn, hd, R, r => by
    obtain ⟨v, m, h1, h2, rfl⟩ := dens_cons.1 hd
    simp only [putPs] at h
    cases hb : Nat.blt p n with
    | false => rw [hb] at h; cases h
    | true =>
      rw [hb, cond_true] at h
      have hp : p < n := by simpa [Nat.blt_eq] using hb
      obtain ⟨q1, rs', q2, q3⟩ := putPs_ok (tmps := tmps.setIfInBounds p v) h hn h2 (R.put (d := p) (by omega) h1) (r.put hp v)
      exact ⟨by simp [q1], rs', q2, by simpa using q3⟩

theorem beginRound_run {w : World} {l : Nat} {r : Loop} (h : w.heap[l]? = some (.loop r)) (hs : r.state = .ready) : (Instr.beginRound l).run P w = .ok () (setB w l (.loop { r with state := .busy })) := by
  simp [Instr.beginRound, Instr.getLoop, getObj_loop h, setObj_loop h, hs]

theorem endRound_run {w : World} {l : Nat} {r : Loop} {j : Option Code} (h : w.heap[l]? = some (.loop r)) : (Instr.endRound l j).run P w = .ok (.bool j.isNone) (setB w l (.loop { r with state := if j.isNone then .ready else .done, pending := j })) := by
  simp [Instr.endRound, Instr.getLoop, getObj_loop h, setObj_loop h]

theorem yield_ok {call : CallR} (hc : CallOK P call) (hm : P.follows .mixedOrders = true) {plans : FuncId → Plans} {fid : FuncId} {fuel b : Nat} {rg rg' : Rg} {ps : List Nat} {asg body : Code} {d : Nat} {args : List SV} {h h' : Hp} {v : SV}
    (hn : n < 100000) (hb : h.t.get b = some (.loop fid n rg ps asg body d .ready)) (hp : putPs rg n ps args = some rg')
    (e : bodyS P call n plans fid fuel b body (codeJ P call n plans fid fuel 2 asg ⟨rg', h, [.stop]⟩) = some (v, h')) (ho : Holds h') {vs : List Value} (g : Good ι ι h) (hd : dens ι args = some vs) {p : Nat × Nat} (hι : ι b = some p) {w : World} (s : Sat w (stars [F, rep ι h.t])) :
    ∃ f tmps asg body, (Instr.yield p.1 vs.toArray).run P w = .ok (.round p.1 f tmps asg body) w ∧
      RoundIn (Fc none) 0 P p.1 f tmps asg body w fun e w' => ∃ ι' vv, e = .returned vv ∧ Good ι ι' h' ∧ den ι' v = some vv ∧ Sat w' (stars [F, rep ι' h'.t]) := by
  have hn2 : n < 2 ^ deep := by show n < 1099511627776; omega
  obtain ⟨p', o, k1, ⟨r, ⟨l1, l2, l3, l4, l5, l6, l7, l8, l9, l10⟩, rfl⟩, k3⟩ := rep_get (rep_frame s) hb
  rw [hι] at k1; cases k1
  have R0 : RegsRel ι rg (regsOf 0 r.tmps.toList) := fun t sv ht => by
    obtain ⟨u, q1, q2⟩ := l2 t sv ht
    refine ⟨u, q1, ?_⟩
    have := lookR_all r.tmps.toList 0 t u (by simpa using q2)
    simpa using this
  have r0 : Regs n [] (regsOf 0 r.tmps.toList) { tmps := r.tmps, defers := [] } := ⟨l1, rfl, fun t u hu => by
    obtain ⟨_, q⟩ := lookR_regsOf _ _ _ _ hu
    simpa using q⟩
  obtain ⟨q1, rs, q2, q3⟩ := putPs_ok hp hn2 hd R0 r0
  have hzip : (r.params.zip vs.toArray).foldl (fun tmps (x : Tmp × Value) => tmps.setIfInBounds x.1 x.2) r.tmps = (ps.zip vs).foldl (fun tmps (x : Nat × Value) => tmps.setIfInBounds x.1 x.2) r.tmps := by
    rw [l4]; simp
  refine ⟨r.fn, (r.params.zip vs.toArray).foldl (fun tmps (x : Tmp × Value) => tmps.setIfInBounds x.1 x.2) r.tmps, asg, body, ?_, ?_⟩
  · have hsz : vs.toArray.size = r.params.size := by rw [l4]; simp [q1]
    simp only [Instr.yield, Instr.getLoop, Sem.run_bind, getObj_loop k3]
    simp [hsz, l5, l6]
  · rw [hzip]
    refine roundIn_of_wpIn trivial ?_
    cases hcs : codeJ P call n plans fid fuel 2 asg ⟨rg', h, [.stop]⟩ with
    | none => rw [hcs] at e; cases e
    | some ex1 =>
    obtain ⟨ex1, st1⟩ := ex1
    rw [hcs] at e
    cases ex1 with
    | normal =>
      simp only [bodyS] at e
      split at e
      rotate_left
      · cases e
      rename_i fid' n' rg2 ps2 asg2 body2 d2 hb1
      cases hcb : codeJ P call n plans fid fuel 2 body { st1 with hp := st1.hp.set b (.loop fid' n' rg2 ps2 asg2 body2 d2 .busy) } with
      | none => rw [hcb] at e; cases e
      | some ex2 =>
      obtain ⟨ex2, st2⟩ := ex2
      rw [hcb] at e
      simp only [endRoundS] at e
      split at e
      rotate_left
      · cases e
      rename_i fid3 n3 rg3 ps3 asg3 body3 d3 hb2
      simp only [Option.some.injEq, Prod.mk.injEq] at e
      obtain ⟨rfl, rfl⟩ := e
      have hk1 : Kind (some p.1) st1.defs := codeJ_kind 2 asg (.inr rfl) hcs
      have ho2 : Holds st2.hp := Holds.same rfl ho
      have ho1 : Holds st1.hp := Holds.same rfl ((codeJ_grows hc 2 body hcb).holds ho2)
      refine codeJ_ok (F := F) (ι0 := ι) (ρ := some p.1) hc hm hn2 2 asg (codeOK_calm asg l9) (Q := Exit.then (fun a₁ w₁ => ∃ w₂, (Instr.beginRound p.1).run P w₁ = .ok () w₂ ∧ body.wpIn (Fc (some p.1)) 0 P (roundPost P p.1 _) a₁ w₂) (fun _ _ _ => False)) (.inr rfl) hcs ho1 ?_ ι rs [] ⟨.refl ι, g.fresh, g.small⟩ q2 rfl _ w q3 s
      intro ι1 rs1 ds1 g1 R1 hD1 a1 w1 rg1 s1
      have hι1 := g1.ext _ _ hι
      obtain ⟨p', o, k1, ⟨r1, ⟨m1, m2, m3, m4, m5, m6, m7, m8, m9, m10⟩, rfl⟩, k3⟩ := rep_get (rep_frame s1) hb1
      rw [hι1] at k1; cases k1
      have hlt : ∀ {ι' : Env} {hh : Hp}, Good ι ι' hh → b + 1 < 2 ^ deep := fun {ι' hh} gg => by
        have := gg.small
        have := gg.ext _ _ hι
        rcases Nat.lt_or_ge b hh.next with h' | h'
        · omega
        · rw [gg.fresh b h'] at this; cases this
      refine ⟨_, beginRound_run k3 m7, ?_⟩
      have s1' := rep_set (w' := setB w1 p.1 (.loop { r1 with state := .busy })) (o' := .loop { r1 with state := .busy }) (c' := .loop fid' n' rg2 ps2 asg2 body2 d2 .busy) s1 hb1 hι1 (hlt g1) ⟨{ r1 with state := .busy }, ⟨m1, m2, m3, m4, m5, m6, rfl, m8, m9, m10⟩, rfl⟩ (setB_at k3)
      refine codeJ_ok (F := F) (ι0 := ι) (ρ := some p.1) (st := { st1 with hp := st1.hp.set b (.loop fid' n' rg2 ps2 asg2 body2 d2 .busy) }) hc hm hn2 2 body (codeOK_calm body l10) hk1 hcb ho2 ?_ ι1 rs1 ds1 ⟨g1.ext, g1.fresh, g1.small⟩ R1 hD1 a1 _ rg1 s1'
      intro ι2 rs2 ds2 g2 R2 hD2 a2 w2 rg2 s2
      have hι2 := g2.ext _ _ hι
      obtain ⟨p', o, k1, ⟨r2, ⟨m1, m2, m3, m4, m5, m6, m7, m8, m9, m10⟩, rfl⟩, k3⟩ := rep_get (rep_frame s2) hb2
      rw [hι2] at k1; cases k1
      have fin : ∀ (j : Option Code), (jumpOf ex2).pend = j → (jumpOf ex2).state = (if j.isNone then LoopState.ready else LoopState.done) → j.isNone = goesOn ex2 →
          ∃ v w', (Instr.endRound p.1 j).run P w2 = .ok v w' ∧ ∃ ι' vv, Ending.returned v = .returned vv ∧ Good ι ι' (st2.hp.set b (.loop fid3 n3 rg3 ps3 asg3 body3 d3 (jumpOf ex2))) ∧ den ι' (.v (.bool (goesOn ex2))) = some vv ∧
            Sat w' (stars [F, rep ι' (st2.hp.set b (.loop fid3 n3 rg3 ps3 asg3 body3 d3 (jumpOf ex2))).t]) := by
        intro j hj1 hj2 hj3
        refine ⟨_, _, endRound_run k3, ι2, _, rfl, ⟨g2.ext, g2.fresh, g2.small⟩, by rw [hj3]; rfl, ?_⟩
        exact rep_set (o' := .loop { r2 with state := if j.isNone then .ready else .done, pending := j }) s2 hb2 hι2 (hlt g2) ⟨{ r2 with state := if j.isNone then .ready else .done, pending := j }, ⟨m1, m2, m3, m4, m5, m6, hj2.symm, hj1.symm, m9, m10⟩, rfl⟩ (setB_at k3)
      cases ex2 with
      | normal => exact fin none rfl rfl rfl
      | exit i => exact fin (some (.exit i)) rfl rfl rfl
      | goto l => exact fin (some (.goto l)) rfl rfl rfl
      | ret => exact fin (some .ret) rfl rfl rfl
    | exit i => simp [bodyS] at e
    | goto l => simp [bodyS] at e
    | ret => simp [bodyS] at e

/-- What is known beforehand is so. -/
def SumsOK (P : Program) (sums : Sums) : Prop := ∀ f args h v h', sums f args h = some (v, h') → Grows h h' ∧
    (∀ (as : Array Value) (w : World), (callFunc f as).run P w = .ok (.enter f as) w) ∧
    (Holds h' → ∀ (F : HP) (ι : Env) (vs : List Value), Good ι ι h → dens ι args = some vs → ∀ w, Sat w (stars [F, rep ι h.t]) →
      Calls P f vs.toArray w fun e w' => ∃ ι' vv, e = .returned vv ∧ Good ι ι' h' ∧ den ι' v = some vv ∧ Sat w' (stars [F, rep ι' h'.t]))

theorem noSums : SumsOK P (fun _ _ _ => none) := fun _ _ _ _ _ h => by cases h

/-- What the interpreter answers, the program does. -/
theorem callS_ok {plans : FuncId → Plans} {quiet : Quiet} {sums : Sums} {fuel : Nat} (hs : SumsOK P sums) (hm : P.follows .mixedOrders = true) (hname : ∀ (f : FuncId) (fn : Func), P.funcs[f]? = some fn → (fn.name == "runtime.NumGoroutine") = false)
    (hpl : ∀ (f : FuncId) (fn : Func) (c : Code), P.funcs[f]? = some fn → fn.body = some c → codeOK (plans f) c = true) (hq : QuietOK P quiet) : ∀ (k : Nat), CallOK P (callS P plans quiet sums fuel k)
  | 0 => ⟨fun cl args h v h' e => by simp [callS] at e, fun f args h v h' e => by simp [callS] at e, fun f args h v h' e => by simp [callS] at e⟩
  | k + 1 => by
    have ih := callS_ok hs hm hname hpl hq (fuel := fuel) k
    refine ⟨fun cl args h v h' e => ?_, fun f args h v h' e => ?_, fun b args h v h' e ho F ι vs g hd p hι w s => ?_⟩
    · cases cl with
      | fn f =>
        simp only [callS, Bool.cond_eq_ite] at e
        split at e
        · rename_i r hsum
          cases e
          exact (hs _ _ _ _ _ hsum).1
        · split at e
          rotate_left
          · cases e
          rename_i fn hf
          split at e
          rotate_left
          · cases e
          rename_i c hb
          split at e
          rotate_left
          · cases e
          have fin : ∀ {ex : Ex} {st : St}, codeJ P (callS P plans quiet sums fuel k) fn.ntmps plans f fuel 2 c ⟨regsS 0 args, h, []⟩ = some (ex, st) → (match endDefs quiet st.defs st.hp with
              | some h' => match resSs P { st with hp := h' } fn.results.toList with
                | some l => some (oneOf l, h')
                | none => none
              | none => none) = some (v, h') → Grows h h' := by
            intro ex st hc1 e
            split at e
            rotate_left
            · cases e
            rename_i h1 he
            split at e
            rotate_left
            · cases e
            simp only [Option.some.injEq, Prod.mk.injEq] at e
            obtain ⟨_, rfl⟩ := e
            exact (codeJ_grows ih 2 c hc1).trans (.same (endDefs_conds he))
          split at e
          · rename_i hc1; exact fin hc1 e
          · rename_i hc1; exact fin hc1 e
          · cases e
      | yld b =>
        simp only [callS, Bool.cond_eq_ite] at e
        split at e
        rotate_left
        · cases e
        rename_i fid n rg ps asg body d hb
        split at e
        rotate_left
        · cases e
        split at e
        rotate_left
        · cases e
        rename_i rg' hp
        cases hcs : codeJ P (callS P plans quiet sums fuel k) n plans fid fuel 2 asg ⟨rg', h, [.stop]⟩ with
        | none => rw [hcs] at e; cases e
        | some ex1 =>
        obtain ⟨ex1, st1⟩ := ex1
        rw [hcs] at e
        have g1 := codeJ_grows ih 2 asg hcs
        cases ex1 with
        | normal =>
          simp only [bodyS] at e
          split at e
          rotate_left
          · cases e
          rename_i fid' n' rg2 ps2 asg2 body2 d2 hb1
          cases hcb : codeJ P (callS P plans quiet sums fuel k) n plans fid fuel 2 body { st1 with hp := st1.hp.set b (.loop fid' n' rg2 ps2 asg2 body2 d2 .busy) } with
          | none => rw [hcb] at e; cases e
          | some ex2 =>
          obtain ⟨ex2, st2⟩ := ex2
          rw [hcb] at e
          have g2 := codeJ_grows ih 2 body hcb
          simp only [endRoundS] at e
          split at e
          rotate_left
          · cases e
          simp only [Option.some.injEq, Prod.mk.injEq] at e
          obtain ⟨_, rfl⟩ := e
          exact (g1.trans (.same rfl)).trans (g2.trans (.same rfl))
        | exit i => simp [bodyS] at e
        | goto l => simp [bodyS] at e
        | ret => simp [bodyS] at e
    · simp only [callS] at e
      split at e
      · rename_i r hsum
        cases e
        exact (hs _ _ _ _ _ hsum).2
      split at e
      rotate_left
      · cases e
      rename_i fn hf
      split at e
      rotate_left
      · cases e
      rename_i c hb
      cases hsz : (Nat.ble args.length fn.ntmps && Nat.blt fn.ntmps 100000) with
      | false => rw [hsz] at e; cases e
      | true =>
        rw [hsz, cond_true] at e
        simp only [Bool.and_eq_true] at hsz
        have hlen := Nat.le_of_ble_eq_true hsz.1
        have hnt : fn.ntmps < 100000 := by simpa [Nat.blt_eq] using hsz.2
        have hn : fn.ntmps < 2 ^ deep := by show fn.ntmps < 1099511627776; omega
        refine ⟨fun as w => ?_, fun ho F ι vs g hd w s => ?_⟩
        · have := hname f fn hf
          simp at this
          simp [callFunc, hf, hb, this]
        · refine calls_of_wpQ hf hb ?_
          have hoS : ∀ st : St, (match endDefs quiet st.defs st.hp with
              | some h' => match resSs P { st with hp := h' } fn.results.toList with
                | some l => some (oneOf l, h')
                | none => none
              | none => none) = some (v, h') → Holds st.hp := by
            intro st e
            split at e
            rotate_left
            · cases e
            rename_i h1 he
            split at e
            rotate_left
            · cases e
            simp only [Option.some.injEq, Prod.mk.injEq] at e
            obtain ⟨_, rfl⟩ := e
            exact Holds.same (endDefs_conds he).symm ho
          have fin : ∀ st : St, (match endDefs quiet st.defs st.hp with
              | some h' => match resSs P { st with hp := h' } fn.results.toList with
                | some l => some (oneOf l, h')
                | none => none
              | none => none) = some (v, h') → JS fn.ntmps F ι st (fun a w => LeavesQ P fn a.tmps (fun e w' => ∃ ι' vv, e = .returned vv ∧ Good ι ι' h' ∧ den ι' v = some vv ∧ Sat w' (stars [F, rep ι' h'.t])) a.defers w) := by
            intro st e
            split at e
            rotate_left
            · cases e
            rename_i h1 he
            split at e
            rotate_left
            · cases e
            rename_i l hl
            simp only [Option.some.injEq, Prod.mk.injEq] at e
            obtain ⟨rfl, rfl⟩ := e
            intro ι' rs ds g' R' hD' a w rg s
            rw [rg.defers]
            refine endDefs_ok hq he hD' g' (fun g2 w' s' => ?_) w s
            obtain ⟨us, b1, b2⟩ := resSs_ok (n := fn.ntmps) (ds := ds) (st := { st with hp := h1 }) (rep_HD (rep_frame s')) R' hl
            have b3 := b2 a w' rg (rep_frame s')
            refine ⟨if h : us.toArray.size = 1 then us.toArray[0] else .tuple us.toArray, ?_, ι', _, rfl, g2, oneOf_den b1, s'⟩
            have b4 : (fn.results.mapM (oneRes a.tmps)).run P w' = .ok us.toArray w' := by
              rw [Array.mapM_eq_mapM_toList, map_eq_pure_bind, Sem.run_bind, b3]; rfl
            rw [results_one]
            simp [b4]
          have start : JS fn.ntmps F ι ⟨regsS 0 args, h, []⟩ (c.wpIn (Fc none) 0 P (bodyQ P fn fun e w' => ∃ ι' vv, e = .returned vv ∧ Good ι ι' h' ∧ den ι' v = some vv ∧ Sat w' (stars [F, rep ι' h'.t]))) := by
            have ok := hpl f fn c hf hb
            split at e
            · rename_i st hs
              exact codeJ_ok ih hm hn 2 c ok (.inl rfl) hs (hoS st e) (fin st e)
            · rename_i st hs
              exact codeJ_ok ih hm hn 2 c ok (.inl rfl) hs (hoS st e) (fin st e)
            · cases e
          exact start ι _ [] g (regsS_rel hd (by omega)) rfl _ w (regs_begin (by rw [dens_len hd]; exact hlen)) s
    · simp only [callS] at e
      split at e
      rotate_left
      · cases e
      rename_i fid n rg ps asg body d hb
      cases hn : Nat.blt n 100000 with
      | false => rw [hn] at e; cases e
      | true =>
        rw [hn, cond_true] at e
        have hn' : n < 100000 := by simpa [Nat.blt_eq] using hn
        split at e
        rotate_left
        · cases e
        rename_i rg' hp
        exact yield_ok ih hm hn' hb hp e ho g hd hι s

end
end Go.Ws
