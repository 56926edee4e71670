/- Calls, shown right. -/
import Derived.Test.YtgdioloappbjkaaGreatWsIter
set_option linter.unusedSectionVars false
set_option linter.unusedVariables false
set_option linter.unusedSimpArgs false
namespace Go.Ws
variable [A : Arrs]

/-- The answers that were given are true. -/
def Holds (h : Hp) : Prop := ∀ x ∈ h.conds, x.1 = x.2

/-- Answers are added alone. -/
def Grows (h h' : Hp) : Prop := ∃ l, h'.conds = l ++ h.conds

theorem Grows.refl (h : Hp) : Grows h h := ⟨[], rfl⟩
theorem Grows.same {h h' : Hp} (e : h'.conds = h.conds) : Grows h h' := ⟨[], by simp [e]⟩
theorem also_grows (h : Hp) (cs : List (Bool × Bool)) : Grows h (h.also cs) := ⟨cs, also_conds h cs⟩
theorem Grows.trans {a b c : Hp} (g : Grows a b) (k : Grows b c) : Grows a c := by
  obtain ⟨l, hl⟩ := g; obtain ⟨m, hm⟩ := k; exact ⟨m ++ l, by rw [hm, hl]; simp⟩
theorem Grows.holds {h h' : Hp} (g : Grows h h') (k : Holds h') : Holds h := by
  obtain ⟨l, hl⟩ := g; exact fun x hx => k x (by rw [hl]; simp [hx])
theorem Holds.same {h h' : Hp} (e : h'.conds = h.conds) (k : Holds h) : Holds h' := fun x hx => k x (by rw [← e]; exact hx)

/-- A call's answer, in a heap of named blocks. -/
structure CallOK (P : Program) (call : CallR) : Prop where
  grows : ∀ cl args h v h', call cl args h = some (v, h') → Grows h h'
  fn : ∀ f args h v h', call (.fn f) args h = some (v, h') →
    (∀ (as : Array Value) (w : World), (callFunc f as).run P w = .ok (.enter f as) w) ∧
    (Holds h' → ∀ (F : HP) (ι : Env) (vs : List Value), Good ι ι h → dens ι args = some vs → ∀ w, Sat w (stars [F, rep ι h.t]) →
      Calls P f vs.toArray w fun e w' => ∃ ι' vv, e = .returned vv ∧ Good ι ι' h' ∧ den ι' v = some vv ∧ Sat w' (stars [F, rep ι' h'.t]))
  yld : ∀ b args h v h', call (.yld b) args h = some (v, h') → Holds h' →
    ∀ (F : HP) (ι : Env) (vs : List Value), Good ι ι h → dens ι args = some vs → ∀ p, ι b = some p → ∀ w, Sat w (stars [F, rep ι h.t]) →
      ∃ f tmps asg body, (Instr.yield p.1 vs.toArray).run P w = .ok (.round p.1 f tmps asg body) w ∧
        RoundIn (Fc none) 0 P p.1 f tmps asg body w fun e w' => ∃ ι' vv, e = .returned vv ∧ Good ι ι' h' ∧ den ι' v = some vv ∧ Sat w' (stars [F, rep ι' h'.t])

theorem den_yld {ι : Env} {b : Nat} {v : Value} (h : den ι (.yld b) = some v) : ∃ p, ι b = some p ∧ v = .func (.yield p.1) #[] #[] := by
  simp only [den] at h
  cases hb : ι b with
  | none => simp [hb] at h
  | some p => simp [hb] at h; exact ⟨p, rfl, h.symm⟩

section
variable {P : Program} {ρ : Option Nat} {n : Nat} {F : HP} {ι0 : Env} {ops : Array Oper} {Q : Exit → Act → World → Prop} {rest : List Oper} {ty : TypeId} {ps : String} {af : Array Edge} {st : St} {op : Op} {call : CallR}

theorem JS_call (hc : CallOK P call) {dst : Option Nat} {f : Operand} {args : Array Operand} {aT : Array TypeId} {h' : Hp} {r : Option SV} {dfs : List Df} (hd : ∀ d, dst = some d → d < n) (hn : n < 2 ^ deep)
    (h : aCall call st.regs st.hp st.defs f args.toList = some (r, h', dfs)) (ho : Holds h') : ∃ v, r = some v ∧ dfs = st.defs ∧
      (JS n F ι0 { St.putO st dst v with hp := h' } (wpListIn (Fc ρ) 0 P ops Q rest) → JS n F ι0 st (wpListIn (Fc ρ) 0 P ops Q (⟨dst, .call ⟨.value f, args, aT⟩, ty, ps, af, none⟩ :: rest))) := by
  unfold aCall at h
  split at h
  · rename_i g a c l hf hl
    split at h
    rotate_left
    · cases h
    rename_i v h'' hcl
    simp only [Option.some.injEq, Prod.mk.injEq] at h
    obtain ⟨rfl, rfl, rfl⟩ := h
    refine ⟨v, rfl, rfl, fun k => ?_⟩
    obtain ⟨hcf, hcalls⟩ := hc.fn _ _ _ _ _ hcl
    intro ι rs ds gd R hD ac w rg s
    obtain ⟨fv, a2, a3⟩ := evalS_ok R hf
    obtain ⟨x, y, b1, b2, rfl⟩ := den_fn a2
    obtain ⟨vs, c1, c2⟩ := evalSs_ok R hl
    unfold wpListIn
    rw [if_pos (by simp [Region.wanted])]
    have hev := rg.evals c2
    have hmap : Array.map ac.eval args = vs.toArray := by rw [← hev]; apply Array.ext'; simp
    have hrun : (execOp ac.eval ⟨dst, .call ⟨.value f, args, aT⟩, ty, ps, af, none⟩).run P w = .ok (.enter g (x ++ (vs ++ y)).toArray) w := by
      simp [execOp, resolve, rg.eval a3, Deferred.ofValue, invoke, hcf, hmap]
    refine op_wp hrun (by simp) ⟨fun h => (by simp at h), callsIn_of ((hcalls ho F ι _ ⟨.refl ι, gd.fresh, gd.small⟩ (dens_append b1 (dens_append c1 b2)) w s).mono ?_)⟩
    rintro e w' ⟨ι', vv, rfl, q1, q2, q3⟩
    obtain ⟨rs', q4, q5⟩ := (R.mono q1.ext).putO rg hd hn q2
    have hD' := denD_mono q1.ext hD
    cases dst with
    | none => exact k ι' rs' ds ⟨gd.ext.trans q1.ext, q1.fresh, q1.small⟩ q4 hD' _ _ q5 q3
    | some d => exact k ι' rs' ds ⟨gd.ext.trans q1.ext, q1.fresh, q1.small⟩ q4 hD' _ _ q5 q3
  · rename_i b l hf hl
    split at h
    rotate_left
    · cases h
    rename_i v h'' hcl
    simp only [Option.some.injEq, Prod.mk.injEq] at h
    obtain ⟨rfl, rfl, rfl⟩ := h
    refine ⟨v, rfl, rfl, fun k => ?_⟩
    intro ι rs ds gd R hD ac w rg s
    obtain ⟨fv, a2, a3⟩ := evalS_ok R hf
    obtain ⟨p, b1, rfl⟩ := den_yld a2
    obtain ⟨vs, c1, c2⟩ := evalSs_ok R hl
    obtain ⟨ff, tmps, asg, body, hy, hround⟩ := hc.yld _ _ _ _ _ hcl ho F ι vs ⟨.refl ι, gd.fresh, gd.small⟩ c1 p b1 w s
    unfold wpListIn
    rw [if_pos (by simp [Region.wanted])]
    have hev := rg.evals c2
    have hmap : Array.map ac.eval args = vs.toArray := by rw [← hev]; apply Array.ext'; simp
    have hrun : (execOp ac.eval ⟨dst, .call ⟨.value f, args, aT⟩, ty, ps, af, none⟩).run P w = .ok (.round p.1 ff tmps asg body) w := by
      simp [execOp, resolve, rg.eval a3, Deferred.ofValue, invoke, hmap, hy]
    refine op_wp hrun (by simp) ⟨fun h => (by simp at h), (hround.mono ?_ : RoundIn (Fc none) 0 P p.1 ff tmps asg body w _)⟩
    rintro e w' ⟨ι', vv, rfl, q1, q2, q3⟩
    obtain ⟨rs', q4, q5⟩ := (R.mono q1.ext).putO rg hd hn q2
    have hD' := denD_mono q1.ext hD
    cases dst with
    | none => exact k ι' rs' ds ⟨gd.ext.trans q1.ext, q1.fresh, q1.small⟩ q4 hD' _ _ q5 q3
    | some d => exact k ι' rs' ds ⟨gd.ext.trans q1.ext, q1.fresh, q1.small⟩ q4 hD' _ _ q5 q3
  · cases h

/-- A frame's deferred calls: those of a round are not taken here. -/
def Kind (ρ : Option Nat) (ds : List Df) : Prop := ρ = none ∨ stopped ds = true

theorem JS_defer {f : Operand} {args : Array Operand} {aT : Array TypeId} {h' : Hp} {r : Option SV} {dfs : List Df} (hρ : Kind ρ st.defs)
    (h : aDefer st.regs st.hp st.defs f args.toList = some (r, h', dfs)) : r = none ∧ h' = st.hp ∧ Kind ρ dfs ∧
      (JS n F ι0 { st with defs := dfs } (wpListIn (Fc ρ) 0 P ops Q rest) → JS n F ι0 st (wpListIn (Fc ρ) 0 P ops Q (⟨none, .defer ⟨.value f, args, aT⟩, ty, ps, af, none⟩ :: rest))) := by
  unfold aDefer at h
  cases hst : stopped st.defs with
  | true => rw [hst] at h; cases h
  | false =>
    have hρ : ρ = none := by rcases hρ with h | h; exact h; rw [hst] at h; cases h
    subst hρ
    rw [hst, cond_false] at h
    split at h
    rotate_left
    · cases h
    rename_i g a c l hf hl
    simp only [Option.some.injEq, Prod.mk.injEq] at h
    obtain ⟨rfl, rfl, rfl⟩ := h
    refine ⟨rfl, rfl, .inl rfl, fun k => ?_⟩
    intro ι rs ds gd R hD ac w rg s
    obtain ⟨fv, a2, a3⟩ := evalS_ok R hf
    obtain ⟨x, y, b1, b2, rfl⟩ := den_fn a2
    obtain ⟨vs, c1, c2⟩ := evalSs_ok R hl
    unfold wpListIn
    rw [if_pos (by simp [Region.wanted])]
    have hev := rg.evals c2
    have hmap : Array.map ac.eval args = vs.toArray := by rw [← hev]; apply Array.ext'; simp
    have hrun : (execOp ac.eval ⟨none, .defer ⟨.value f, args, aT⟩, ty, ps, af, none⟩).run P w = .ok (.defer ⟨.fn (.func g) y.toArray, (x ++ vs).toArray⟩) w := by
      simp [execOp, resolve, rg.eval a3, Deferred.ofValue, hmap]
    refine ⟨fun _ _ => trivial, ?_⟩
    have hsem : Oper.semAt (Fc none).round ac.eval ⟨none, .defer ⟨.value f, args, aT⟩, ty, ps, af, none⟩ = execOp ac.eval ⟨none, .defer ⟨.value f, args, aT⟩, ty, ps, af, none⟩ := rfl
    rw [hsem, hrun]
    exact k ι rs _ gd R (denD_cons.2 ⟨x ++ vs, y, ds, dens_append b1 c1, b2, hD, rfl⟩) _ _ ⟨rg.size, by simp [Act.put, rg.defers], rg.at_⟩ s

end
end Go.Ws
