/- What a rule makes of values: the body, a loop over any list. -/
import Derived.Test.YtgdioloappbjkaaGreatMake13
import Derived.Test.YtgdioloappbjkaaGreatWsEnd
set_option linter.unusedSectionVars false
set_option linter.unusedVariables false
set_option linter.unusedSimpArgs false
namespace Go.Ws
open Go.Proofs Go.RowKit
variable [A : Arrs]

def i64m : List SV → Option (List Int)
  | [] => some []
  | x :: l => match intS x with
    | some (.i64, n, _) => match i64m l with
      | some m => some (n :: m)
      | none => none
    | _ => none

theorem i64m_den {ι : Env} : ∀ {l : List SV} {ns : List Int} {vs : List Value}, i64m l = some ns → dens ι l = some vs → vs = ns.map (Value.int .i64)
  | [], ns, vs, h, hd => by simp [i64m] at h; simp [dens] at hd; subst h hd; rfl
  | x :: l, ns, vs, h, hd => by
    obtain ⟨v, m, h1, h2, rfl⟩ := dens_cons.1 hd
    simp only [i64m] at h
    split at h
    rotate_left
    · cases h
    rename_i n s hx
    split at h
    rotate_left
    · cases h
    rename_i m' hm
    simp only [Option.some.injEq] at h; subst h
    rw [intS_den hx h1, i64m_den hm h2]; rfl

def mayS (args : List SV) : Option SV := match args with
  | [.agg l] => match i64m l with
    | some [r0, r1, r2, r3, r4] => some (.sb (mayQ r0 r1 r2 r3 r4))
    | _ => none
  | _ => none

def mkS (doc : Bool) (args : List SV) : Option SV := match args with
  | [.agg l, x] => match i64m l, intS x with
    | some [r0, r1, r2, r3, r4], some (.i64, v, _) => some (.si .i64 (bif doc then mkD r3 r4 v else mkC r0 r1 r2 r3 r4 v))
    | _, _ => none
  | _ => none

def keepS (h : Hp) : Option SV → Option (SV × Hp)
  | some v => some (v, h)
  | none => none

noncomputable def sumsM : Sums := fun f args h => bif Nat.beq f 27 then keepS h (mayS args) else bif Nat.beq f 28 then keepS h (mkS true args) else bif Nat.beq f 29 then keepS h (mkS false args) else sumsK f args h

theorem sumsM_ok : SumsOK Tryz.prog sumsM := by
  have key : ∀ {f : FuncId} {args : List SV} {h h' : Hp} {v : SV} {o : Option SV}, keepS h o = some (v, h') → (∀ (xs : Array Value) (w : World), (callFunc f xs).run Tryz.prog w = .ok (.enter f xs) w) →
      (∀ sv, o = some sv → ∀ (ι : Env) (vs : List Value), dens ι args = some vs → ∃ vv, den ι sv = some vv ∧ ∀ (F : HP) (w : World), Sat w F → Calls Tryz.prog f vs.toArray w fun e w' => e = .returned vv ∧ Sat w' F) →
      Grows h h' ∧ (∀ (xs : Array Value) (w : World), (callFunc f xs).run Tryz.prog w = .ok (.enter f xs) w) ∧
      (Holds h' → ∀ (F : HP) (ι : Env) (vs : List Value), Good ι ι h → dens ι args = some vs → ∀ w, Sat w (stars [F, rep ι h.t]) →
        Calls Tryz.prog f vs.toArray w fun e w' => ∃ ι' vv, e = .returned vv ∧ Good ι ι' h' ∧ den ι' v = some vv ∧ Sat w' (stars [F, rep ι' h'.t])) := by
    intro f args h h' v o e hcf hh
    unfold keepS at e
    split at e
    rotate_left
    · cases e
    simp only [Option.some.injEq, Prod.mk.injEq] at e
    obtain ⟨rfl, rfl⟩ := e
    refine ⟨.refl _, hcf, fun _ F ι vs g hd w s => ?_⟩
    obtain ⟨vv, h1, h2⟩ := hh _ rfl ι vs hd
    refine (h2 _ w s).mono ?_
    rintro e w' ⟨rfl, s'⟩
    exact ⟨ι, _, rfl, g, h1, s'⟩
  have mk : ∀ {f : FuncId} {doc : Bool}, (∀ (r0 r1 r2 r3 r4 v : Int) (F : HP) (w : World), Sat w F → Calls Tryz.prog f #[ruleV r0 r1 r2 r3 r4, .int .i64 v] w fun e w' => e = .returned (.int .i64 (bif doc then mkD r3 r4 v else mkC r0 r1 r2 r3 r4 v)) ∧ Sat w' F) →
      ∀ (args : List SV) sv, mkS doc args = some sv → ∀ (ι : Env) (vs : List Value), dens ι args = some vs → ∃ vv, den ι sv = some vv ∧ ∀ (F : HP) (w : World), Sat w F → Calls Tryz.prog f vs.toArray w fun e w' => e = .returned vv ∧ Sat w' F := by
    intro f doc hh args sv hs ι vs hd
    unfold mkS at hs
    split at hs
    rotate_left
    · cases hs
    rename_i l x
    split at hs
    rotate_left
    · cases hs
    rename_i r0 r1 r2 r3 r4 v sy hl hx
    simp only [Option.some.injEq] at hs; subst hs
    obtain ⟨u, m, h1, h2, rfl⟩ := dens_cons.1 hd
    obtain ⟨u', m', h3, h4, rfl⟩ := dens_cons.1 h2
    simp only [dens, Option.some.injEq] at h4; subst h4
    obtain ⟨us, h5, rfl⟩ := den_agg h1
    rw [i64m_den hl h5, intS_den hx h3]
    exact ⟨_, rfl, fun F w s => hh r0 r1 r2 r3 r4 v F w s⟩
  intro f args h v h' e
  unfold sumsM at e
  cases h27 : Nat.beq f 27 with
  | true =>
    rw [h27, cond_true] at e
    have := Nat.eq_of_beq_eq_true h27; subst this
    refine key e Tryz.call27 fun sv hs ι vs hd => ?_
    unfold mayS at hs
    split at hs
    rotate_left
    · cases hs
    rename_i l
    split at hs
    rotate_left
    · cases hs
    rename_i r0 r1 r2 r3 r4 hl
    simp only [Option.some.injEq] at hs; subst hs
    obtain ⟨u, m, h1, h2, rfl⟩ := dens_cons.1 hd
    simp only [dens, Option.some.injEq] at h2; subst h2
    obtain ⟨us, h3, rfl⟩ := den_agg h1
    rw [i64m_den hl h3]
    exact ⟨_, rfl, fun F w s => mayQ_ok r0 r1 r2 r3 r4 s⟩
  | false =>
    rw [h27, cond_false] at e
    cases h28 : Nat.beq f 28 with
    | true =>
      rw [h28, cond_true] at e
      have := Nat.eq_of_beq_eq_true h28; subst this
      exact key e Tryz.call28 (mk (doc := true) (fun r0 r1 r2 r3 r4 v F w s => mkD_ok r0 r1 r2 r3 r4 v s) args)
    | false =>
      rw [h28, cond_false] at e
      cases h29 : Nat.beq f 29 with
      | true =>
        rw [h29, cond_true] at e
        have := Nat.eq_of_beq_eq_true h29; subst this
        exact key e Tryz.call29 (mk (doc := false) (fun r0 r1 r2 r3 r4 v F w s => mkC_ok r0 r1 r2 r3 r4 v s) args)
      | false =>
        rw [h29, cond_false] at e
        exact sumsK_ok f args h v h' e

noncomputable abbrev callM : CallR := callS Tryz.prog plansOf quietOf sumsM 200 30
theorem callM_ok : CallOK Tryz.prog callM := callS_ok sumsM_ok mixed nameOK plansOK quietOK 30
end Go.Ws
