/- A panic out of one function, caught by what its caller defers: the call's summary, shown right. -/
import Derived.Test.YtgdioloappbjkaaGreatWsLaw
set_option linter.unusedSectionVars false
set_option linter.unusedVariables false
set_option linter.unusedSimpArgs false
namespace Go.Ws
variable [A : Arrs]
open Go.RowKit

section
variable {P : Program} {ρ : Option Nat} {n : Nat} {F : HP} {ι0 : Env} {call : CallR} {ops : Array Oper} {Q : Exit → Act → World → Prop}

/-- The first operations of a region. -/
theorem opsS_okT (hc : CallOK P call) (hn : n < 2 ^ deep) (rest : List Oper) : ∀ {l : List Oper} {st st' : St}, Kind ρ st.defs → opsS P call n ops l st = some st' → Holds st'.hp → JS n F ι0 st' (wpListIn (Fc ρ) 0 P ops Q rest) → JS n F ι0 st (wpListIn (Fc ρ) 0 P ops Q (l ++ rest))
  | [], st, st', _, h, _, k => by
    simp only [opsS, Option.some.injEq] at h; subst h
    exact k
  | o :: l, st, st', hρ, h, ho, k => by
    obtain ⟨dst, op, ty, ps, af, g⟩ := o
    simp only [opsS] at h
    split at h
    · rename_i st0 hw
      obtain ⟨w1, w2, w3, w4, w5⟩ := wantS_ok hw
      split at h
      rotate_left
      · cases h
      rename_i st1 h1
      have hρ0 : Kind ρ st0.defs := by rw [w2]; exact hρ
      have ho1 := (opsS_grows hc h).holds ho
      have ho0 := (opS_grows hc h1).holds ho1
      have key := opS_ok (F := F) (ι0 := ι0) (ops := ops) (Q := Q) (rest := l ++ rest) (ty := ty) (ps := ps) (af := af) hc ho1 hρ0 hn h1 (opsS_okT hc hn rest (opS_kind hρ0 h1) h ho k)
      intro ι rs ds gd R hD
      obtain ⟨R0, hg⟩ := w5 ho0 R
      have g0 : Good ι0 ι st0.hp := ⟨gd.ext, by rw [w4]; exact gd.fresh, by rw [w4]; exact gd.small⟩
      have hD0 : denD ι st0.defs = some ds := by rw [w2]; exact hD
      have k1 := key ι rs ds g0 R0 hD0
      rw [w3] at k1
      rcases hg with ⟨rfl, _⟩ | ⟨j, want, t, bb, rfl, h2, h3, h4⟩
      · exact k1
      · have : bb = want := by simpa using h4.symm
        subst this
        exact J_on h2 h3 k1
    · rename_i st0 hw
      obtain ⟨w1, w2, w3, w4, w5⟩ := wantS_ok hw
      cases dst with
      | none => cases h
      | some d =>
        simp only at h
        cases hd : Nat.blt d n with
        | false => rw [hd] at h; cases h
        | true =>
          rw [hd, cond_true] at h
          have hd' : d < n := by simpa [Nat.blt_eq] using hd
          have hρ0 : Kind ρ st0.defs := by rw [w2]; exact hρ
          have ho0 : Holds st0.hp := (opsS_grows hc (st := st0.put d (.v undef)) h).holds ho
          intro ι rs ds gd R hD
          obtain ⟨R0, hg⟩ := w5 ho0 R
          have g0 : Good ι0 ι st0.hp := ⟨gd.ext, by rw [w4]; exact gd.fresh, by rw [w4]; exact gd.small⟩
          have hD0 : denD ι st0.defs = some ds := by rw [w2]; exact hD
          rcases hg with ⟨_, h2⟩ | ⟨j, want, t, bb, rfl, h2, h3, h4⟩
          · cases h2
          · refine J_off h2 h3 (by revert h4; cases bb <;> cases want <;> simp) hd' ?_
            have := opsS_okT hc hn rest (st := st0.put d (.v undef)) hρ0 h ho k ι _ ds g0 (R0.put (d := d) (v := undef) (Nat.lt_of_le_of_lt hd' hn) rfl) hD0
            rwa [show (st0.put d (.v undef)).hp.t = st.hp.t from w3] at this
    · cases h

/-- One text behind the other, each to its end. -/
def runs (P : Program) (call : CallR) (n : Nat) (plans : FuncId → Plans) (fid : FuncId) (fuel : Nat) : List Code → St → Option St
  | [], st => some st
  | c :: l, st => match codeJ P call n plans fid fuel 0 c st with
    | some (.normal, st') => runs P call n plans fid fuel l st'
    | _ => none

def seqs : List Code → Code → Code
  | [], c => c
  | x :: l, c => .seq x (seqs l c)

theorem runs_grows (hc : CallOK P call) {plans : FuncId → Plans} {fid : FuncId} {fuel : Nat} : ∀ {l : List Code} {st st' : St}, runs P call n plans fid fuel l st = some st' → Grows st.hp st'.hp
  | [], st, st', h => by simp only [runs, Option.some.injEq] at h; subst h; exact .refl _
  | c :: l, st, st', h => by
    simp only [runs] at h
    split at h
    · rename_i h1; exact (codeJ_grows hc 0 c h1).trans (runs_grows hc h)
    · cases h

theorem runs_kind {plans : FuncId → Plans} {fid : FuncId} {fuel : Nat} : ∀ {l : List Code} {st st' : St}, Kind ρ st.defs → runs P call n plans fid fuel l st = some st' → Kind ρ st'.defs
  | [], st, st', k, h => by simp only [runs, Option.some.injEq] at h; subst h; exact k
  | c :: l, st, st', k, h => by
    simp only [runs] at h
    split at h
    · rename_i h1; exact runs_kind (codeJ_kind 0 c k h1) h
    · cases h

theorem runs_ok (hc : CallOK P call) (hm : P.follows .mixedOrders = true) (hn : n < 2 ^ deep) {plans : FuncId → Plans} {fid : FuncId} {fuel : Nat} {rest : Code} : ∀ {l : List Code}, codeOK (plans fid) (seqs l rest) = true → ∀ {st st' : St}, Kind ρ st.defs →
    runs P call n plans fid fuel l st = some st' → Holds st'.hp → JS n F ι0 st' (rest.wpIn (Fc ρ) 0 P Q) → JS n F ι0 st ((seqs l rest).wpIn (Fc ρ) 0 P Q)
  | [], _, st, st', _, h, _, k => by simp only [runs, Option.some.injEq] at h; subst h; exact k
  | c :: l, ok, st, st', hk, h, ho, k => by
    simp only [seqs, codeOK, Bool.and_eq_true] at ok
    simp only [runs] at h
    split at h
    · rename_i st1 h1
      have ih := runs_ok hc hm hn (rest := rest) ok.2 (codeJ_kind 0 c hk h1) h ho k
      have := codeJ_ok (Q := Exit.then ((seqs l rest).wpIn (Fc ρ) 0 P Q) Q) hc hm hn 0 c ok.1 hk h1 ((runs_grows hc h).holds ho) ih
      exact JS_mono this fun a w g => wpIn_seq g
    · cases h

/-- A call that panics. -/
def PanOK (P : Program) (g : FuncId) (args : List SV) (h : Hp) (sv : SV) (h' : Hp) : Prop :=
  (∀ (as : Array Value) (w : World), (callFunc g as).run P w = .ok (.enter g as) w) ∧
  (Holds h' → ∀ (F : HP) (ι : Env) (vs : List Value), Good ι ι h → dens ι args = some vs → ∀ w, Sat w (stars [F, rep ι h.t]) →
    Calls P g vs.toArray w fun e w' => ∃ ι' v, e = .panicked [⟨v, false, false⟩] ∧ Good ι ι' h' ∧ den ι' sv = some v ∧ Sat w' (stars [F, rep ι' h'.t]))

/-- One that panics where a thing is not so. -/
theorem pan_ok (hc : CallOK P call) (hm : P.follows .mixedOrders = true) {g : FuncId} {fn : Func} {r0 : Code} {t s : Nat} {id : Nat} {ops : Array Oper} {l : List Oper} {d : Option Nat} {ty : TypeId} {ps : String} {af : Array Edge} {plans : FuncId → Plans} {fuel : Nat}
    (hname : (fn.name == "runtime.NumGoroutine") = false)
    (hf : P.funcs[g]? = some fn) (hb : fn.body = some (.seq r0 (.cond (.tmp t) (.region id ops false) .skip))) (hops : ops.toList = l ++ [⟨d, .panic (.tmp s), ty, ps, af, none⟩]) (hn : fn.ntmps < 100000)
    (ok : codeOK (plans g) r0 = true) {args : List SV} (hl : args.length ≤ fn.ntmps) {h : Hp} {st1 st2 : St} (h1 : runs P call fn.ntmps plans g fuel [r0] ⟨regsS 0 args, h, []⟩ = some st1) (ht : lookS st1.regs t = some (.v (.bool true)))
    (h2 : opsS P call fn.ntmps ops l st1 = some st2) (hd2 : st2.defs = []) {T : TypeId} {x : SV} (hs : lookS st2.regs s = some (.ifc T x)) :
    PanOK P g args h (.ifc T x) st2.hp := by
  have hn2 : fn.ntmps < 2 ^ deep := by show fn.ntmps < 1099511627776; omega
  refine ⟨fun as w => ?_, fun ho F ι vs gd hd w sw => ?_⟩
  · simp at hname
    simp [callFunc, hf, hb, hname]
  refine calls_of_wp hf hb ((wpIn_wide (n := 0)).1 ?_)
  have hk1 : Kind none st1.defs := runs_kind (.inl rfl) h1
  have key : JS fn.ntmps F ι ⟨regsS 0 args, h, []⟩ ((seqs [r0] (.cond (.tmp t) (.region id ops false) .skip)).wpIn (Fc none) 0 P (bodyPost P fn fun e w' => ∃ ι' v, e = .panicked [⟨v, false, false⟩] ∧ Good ι ι' st2.hp ∧ den ι' (.ifc T x) = some v ∧ Sat w' (stars [F, rep ι' st2.hp.t]))) := by
    refine runs_ok hc hm hn2 (by simp [seqs, codeOK, ok]) (.inl rfl) h1 ((opsS_grows hc h2).holds ho) ?_
    intro ι1 rs1 ds1 g1 R1 hD1 a w s1
    intro s1'
    obtain ⟨v, hv, hv2⟩ := R1 t _ ht
    simp only [den, Option.some.injEq] at hv; subst hv
    refine wpIn_cond_true (s1.eval (x := .tmp t) hv2) (wpIn_region_list ?_)
    rw [hops]
    refine opsS_okT hc hn2 _ hk1 h2 ho ?_ ι1 rs1 ds1 g1 R1 hD1 a w s1 s1'
    intro ι2 rs2 ds2 g2 R2 hD2 a2 w2 q2 s2
    obtain ⟨v, hv, hv2⟩ := R2 s _ hs
    obtain ⟨y, rfl⟩ : ∃ y, v = .iface T y := by
      simp only [den] at hv
      split at hv
      · simp only [Option.some.injEq] at hv; exact ⟨_, hv.symm⟩
      · cases hv
    have e2 : a2.eval (.tmp s) = .iface T y := q2.eval (x := .tmp s) hv2
    have hrun : (execOp a2.eval ⟨d, .panic (.tmp s), ty, ps, af, none⟩).run P w2 = .halt (.panic (.iface T y)) w2 := by
      simp [execOp, e2, Instr.panic, goPanic]
    unfold wpListIn
    rw [if_pos (by simp [Region.wanted])]
    refine ⟨fun _ _ => trivial, ?_⟩
    show Oper.uponIn (Fc none) 0 P _ a2 _ _ ((Oper.semAt none a2.eval _).run P w2)
    rw [Oper.semAt_eq none a2.eval _ (fun c hc => by cases hc), hrun]
    simp only [Oper.uponIn, bodyPost]
    rw [hd2] at hD2
    simp only [denD, Option.some.injEq] at hD2; subst hD2
    exact ⟨q2.defers, ι2, _, rfl, g2, hv, s2⟩
  exact key ι _ [] gd (regsS_rel hd (by omega)) rfl _ w (regs_begin (by rw [dens_len hd]; exact hl)) sw

/-- The summary of a call. -/
def SumOK (P : Program) (f : FuncId) (args : List SV) (h : Hp) (v : SV) (h' : Hp) : Prop :=
  (∀ (as : Array Value) (w : World), (callFunc f as).run P w = .ok (.enter f as) w) ∧
    (Holds h' → ∀ (F : HP) (ι : Env) (vs : List Value), Good ι ι h → dens ι args = some vs → ∀ w, Sat w (stars [F, rep ι h.t]) →
      Calls P f vs.toArray w fun e w' => ∃ ι' vv, e = .returned vv ∧ Good ι ι' h' ∧ den ι' v = some vv ∧ Sat w' (stars [F, rep ι' h'.t]))

/-- A function that defers one that catches: where it calls one that panics, it returns. -/
theorem rescue_ok (hc : CallOK P call) (hm : P.follows .mixedOrders = true) {f : FuncId} {fn : Func} {pre : List Code} {id : Nat} {ops : Array Oper} {rest : Code} {l more : List Oper} {d : Nat} {g : FuncId} {margs : Array Operand} {aT : Array TypeId} {ty : TypeId} {ps : String} {af : Array Edge} {plans : FuncId → Plans} {fuel : Nat}
    (hname : (fn.name == "runtime.NumGoroutine") = false)
    (hf : P.funcs[f]? = some fn) (hb : fn.body = some (seqs pre (.seq (.region id ops false) rest))) (hops : ops.toList = l ++ ⟨some d, .call ⟨.value (.func g), margs, aT⟩, ty, ps, af, none⟩ :: more) (hn : fn.ntmps < 100000)
    (ok : codeOK (plans f) (seqs pre (.seq (.region id ops false) rest)) = true) {args : List SV} (hl : args.length ≤ fn.ntmps) {h : Hp} {st1 st2 : St} (h1 : runs P call fn.ntmps plans f fuel pre ⟨regsS 0 args, h, []⟩ = some st1)
    (h2 : opsS P call fn.ntmps ops l st1 = some st2) {msv : List SV} (ha : evalSs st2.regs margs.toList = some msv) {sv : SV} {h3 : Hp} (pan : PanOK P g msv st2.hp sv h3) (hg3 : Grows st2.hp h3)
    {D : FuncId} {cs : List SV} (hd2 : st2.defs = [.call D [] cs])
    {fnD : Func} {idD t : Nat} {tyD : TypeId} {psD : String} {afD : Array Edge} {blk : Code} (hnameD : (fnD.name == "runtime.NumGoroutine") = false) (hfD : P.funcs[D]? = some fnD)
    (hbD : fnD.body = some (.seq (.region idD #[⟨some t, .call ⟨.builtin .recover, #[], #[]⟩, tyD, psD, afD, none⟩] false) blk)) (hnD : fnD.ntmps < 100000) (htD : t < fnD.ntmps) (hlD : cs.length ≤ fnD.ntmps) (hrD : fnD.results = #[])
    (okD : codeOK (plans D) blk = true) {st4 : St} (hD : codeJ P call fnD.ntmps plans D fuel 0 blk ⟨putS (regsS 0 cs) t sv, h3, []⟩ = some (.normal, st4)) (hd4 : st4.defs = [])
    {res : List SV} (hres : resSs P { st2 with hp := st4.hp } fn.results.toList = some res) : SumOK P f args h (oneOf res) st4.hp := by
  have hn2 : fn.ntmps < 2 ^ deep := by show fn.ntmps < 1099511627776; omega
  have hnD2 : fnD.ntmps < 2 ^ deep := by show fnD.ntmps < 1099511627776; omega
  refine ⟨fun as w => ?_, fun ho F ι vs gd hd w sw => ?_⟩
  · have hbs : fn.body.isSome = true := by rw [hb]; rfl
    simp at hname
    cases hbb : fn.body with
    | none => rw [hbb] at hbs; cases hbs
    | some c => simp [callFunc, hf, hbb, hname]
  have ho3 : Holds h3 := (codeJ_grows hc 0 blk hD).holds ho
  have ho2 : Holds st2.hp := hg3.holds ho3
  refine calls_of_wp_defers hf hb ((wpIn_wide (n := 0)).1 ?_)
  have hk1 : Kind none st1.defs := runs_kind (.inl rfl) h1
  have key : JS fn.ntmps F ι ⟨regsS 0 args, h, []⟩ ((seqs pre (.seq (.region id ops false) rest)).wpIn (Fc none) 0 P (bodyPostD P fn fun e w' => ∃ ι' vv, e = .returned vv ∧ Good ι ι' st4.hp ∧ den ι' (oneOf res) = some vv ∧ Sat w' (stars [F, rep ι' st4.hp.t]))) := by
    refine runs_ok hc hm hn2 ok (.inl rfl) h1 ((opsS_grows hc h2).holds ho2) ?_
    intro ι1 rs1 ds1 g1 R1 hD1 a w s1 s1'
    refine wpIn_seq (wpIn_region_list ?_)
    rw [hops]
    refine opsS_okT hc hn2 _ hk1 h2 ho2 ?_ ι1 rs1 ds1 g1 R1 hD1 a w s1 s1'
    intro ι2 rs2 ds2 g2 R2 hD2 a2 w2 q2 s2
    obtain ⟨mvs, c1, c2⟩ := evalSs_ok R2 ha
    have hev := q2.evals c2
    have hmap : Array.map a2.eval margs = mvs.toArray := by rw [← hev]; apply Array.ext'; simp
    have hpan := pan.1
    unfold wpListIn
    rw [if_pos (by simp [Region.wanted])]
    have hrun : (execOp a2.eval ⟨some d, .call ⟨.value (.func g), margs, aT⟩, ty, ps, af, none⟩).run P w2 = .ok (.enter g mvs.toArray) w2 := by
      simp [execOp, resolve, Act.eval, Deferred.ofValue, invoke, hpan, hmap]
    refine op_wp hrun (by simp) ⟨fun h => (by simp at h), callsIn_of ((pan.2 ho3 F ι2 mvs ⟨.refl ι2, g2.fresh, g2.small⟩ c1 w2 s2).mono ?_)⟩
    rintro e w3 ⟨ι3, v, rfl, g3, hv, s3⟩
    simp only [Exit.then, bodyPostD]
    rw [q2.defers]
    rw [hd2] at hD2
    obtain ⟨x, y, m, e1, e2, e3, rfl⟩ := denD_cons.1 hD2
    simp only [denD, Option.some.injEq] at e3; subst e3
    simp only [dens, Option.some.injEq] at e1; subst e1
    have e2' := dens_mono g3.ext e2
    have hcD : (callFunc D y.toArray).run P w3 = .ok (.enter D y.toArray) w3 := by
      simp at hnameD
      simp [callFunc, hfD, hbD, hnameD]
    refine leaves_cons (by simp) (f := D) (args := y.toArray) ?_ ?_
    · simp [invoke] at hcD ⊢; exact hcD
    refine CallsD.mono (R := fun e u' w' => ∃ z, e = .returned z ∧ settle u' = .returning ∧ Leaves P fn a2.tmps (fun e w' => ∃ ι' vv, e = .returned vv ∧ Good ι ι' st4.hp ∧ den ι' (oneOf res) = some vv ∧ Sat w' (stars [F, rep ι' st4.hp.t])) [] .returning w') ?_ ?_
    rotate_left
    · rintro e u' w' ⟨z, rfl, hz, hL⟩
      simp only [hz]
      exact hL
    refine callsD_of_wpS hfD hbD fun c₀ cs₀ hu => wpS_seq (wpS_region ?_)
    have hrange : List.range (#[(⟨some t, .call ⟨.builtin .recover, #[], #[]⟩, tyD, psD, afD, none⟩ : Oper)]).size = [0] := rfl
    rw [hrange]
    have hrec : recoverD (c₀ :: cs₀) = some (v, { c₀ with mode := .panicking [⟨v, true, false⟩] } :: cs₀) := by simp [recoverD, hu]
    have hex : ∀ a : Act, (execOp a.eval ⟨some t, .call ⟨.builtin .recover, #[], #[]⟩, tyD, psD, afD, none⟩).run P w3 = .ok .recover w3 := fun a => by
      simp [execOp, resolve, invoke, builtin]
    simp only [wpOpsS, List.getElem?_toArray, List.getElem?_cons_zero]
    simp only [Region.wanted, if_true, hex, hrec]
    refine wpS_of_wp ((wpIn_wide (n := 0)).1 ?_)
    have hly := dens_len e2'
    have key2 := codeJ_ok (P := P) (n := fnD.ntmps) (F := F) (ι0 := ι3) (ρ := none) (Q := fun e a' w' => bodyPostS P fnD c₀ cs₀ (fun e u' w' => ∃ z, e = .returned z ∧ settle u' = .returning ∧ Leaves P fn a2.tmps (fun e w' => ∃ ι' vv, e = .returned vv ∧ Good ι ι' st4.hp ∧ den ι' (oneOf res) = some vv ∧ Sat w' (stars [F, rep ι' st4.hp.t])) [] .returning w') e a' ({ c₀ with mode := .panicking [⟨v, true, false⟩] } :: cs₀) w') hc hm hnD2 0 blk okD (.inl rfl) hD ho ?_
    · have := key2 ι3 ((t, v) :: regsOf 0 y) [] ⟨.refl _, g3.fresh, g3.small⟩ ((regsS_rel e2' (by omega)).put (by omega) hv) rfl (Act.put { tmps := y.toArray ++ Array.replicate (fnD.ntmps - y.toArray.size) undef, defers := [] } (some t) v) w3 ((regs_begin (by omega)).put htD v) s3
      exact this
    · intro ι4 rs4 ds4 g4 R4 hD4 a4 w4 q4 s4
      rw [hd4] at hD4
      simp only [denD, Option.some.injEq] at hD4; subst hD4
      refine ⟨q4.defers, .panicking [⟨v, true, false⟩], rfl, .tuple #[], by simp [results, hrD], _, rfl, by simp [settle], ?_⟩
      have ext24 : Ext ι2 ι4 := g3.ext.trans g4.ext
      obtain ⟨us, b1, b2⟩ := resSs_ok (n := fn.ntmps) (ds := [⟨.fn (.func D) y.toArray, #[]⟩]) (st := { st2 with hp := st4.hp }) (rep_HD (rep_frame s4)) (R2.mono ext24) hres
      have b3 := b2 a2 w4 ⟨q2.size, by rw [q2.defers], q2.at_⟩ (rep_frame s4)
      refine ⟨if h : us.toArray.size = 1 then us.toArray[0] else .tuple us.toArray, ?_, ι4, _, rfl, ⟨(g2.ext.trans g3.ext).trans g4.ext, g4.fresh, g4.small⟩, oneOf_den b1, s4⟩
      have b4 : (fn.results.mapM (oneRes a2.tmps)).run P w4 = .ok us.toArray w4 := by
        rw [Array.mapM_eq_mapM_toList, map_eq_pure_bind, Sem.run_bind, b3]; rfl
      rw [results_one]
      simp [b4]
  exact key ι _ [] gd (regsS_rel hd (by omega)) rfl _ w (regs_begin (by rw [dens_len hd]; exact hl)) sw
end
end Go.Ws
