/- A scope in which the run jumps once. -/
import Derived.Test.YtgdioloappbjkaaGreatWsSlice
set_option linter.unusedSectionVars false
set_option linter.unusedVariables false
set_option linter.unusedSimpArgs false
namespace Go.Ws

/-- Behind a jump: no other one. -/
def noGo (Q : Exit → Act → World → Prop) : Exit → Act → World → Prop
  | .goto _, _, _ => False
  | e, a, w => Q e a w

/-- By a jump to l: K; else as Q. -/
def jumpQ (l : Nat) (K : Act → World → Prop) (Q : Exit → Act → World → Prop) : Exit → Act → World → Prop
  | .goto l', a, w => l' = l ∧ K a w
  | e, a, w => Q e a w

section
variable {P : Program} {ρ : Option Nat} {n : Nat} {ds : List Deferred} {rs : List (Nat × Value)} {H : List HP} {Q : Exit → Act → World → Prop}

theorem wpIn_scope1 {c rest : Code} {l : Nat} {a : Act} {w : World} (hf : findLabel c l = some rest) (h : c.wpIn (Fc ρ) 0 P (jumpQ l (rest.wpIn (Fc ρ) 0 P (noGo Q)) Q) a w) : (Code.scope c).wpIn (Fc ρ) 0 P Q a w := by
  intro b k cs hro hb hr
  obtain ⟨e, a₁, w₁, hq, harr⟩ := h b (.inScope c :: k) cs hro hb hr
  have f0 : StepsIn (Machine.fenced P (Fc ρ)) P (lone (b.atR a (.code (.scope c) :: k)) cs w) (lone (b.atR a (.code c :: .inScope c :: k)) cs w) := .one (fenced_wide P _) (step_lone_go (by simp [stepG, stepG.exec, Frame.atR]))
  have f1 : ∀ a w, StepsIn (Machine.fenced P (Fc ρ)) P (lone (b.atR a (.inScope c :: k)) cs w) (lone (b.atR a k) cs w) := fun a w => .one (fenced_wide P _) (step_lone_go (by simp [stepG, stepG.exec, Frame.atR]))
  have hx : ∀ id, exitTo id (.inScope c :: k) = exitTo id k := fun id => by simp [exitTo]
  have fin : ∀ (e : Exit) (a₀ a₁ : Act) (w₀ w₁ : World) (k0 : List Item), (∀ l', e ≠ .goto l') → ArrivesIn (Machine.fenced P (Fc ρ)) P (lone (b.atR a₀ k0) cs w₀) b (.inScope c :: k) cs e a₁ w₁ → ArrivesIn (Machine.fenced P (Fc ρ)) P (lone (b.atR a₀ k0) cs w₀) b k cs e a₁ w₁ := by
    intro e a₀ a₁ w₀ w₁ k0 hne harr
    cases e with
    | normal => exact StepsIn.trans harr (f1 _ _)
    | exit id => exact ⟨fun k' hk => harr.1 k' (by rw [hx]; exact hk), fun h1 h2 => harr.2 h1 (by rw [hx]; exact h2)⟩
    | goto l' => exact absurd rfl (hne l')
    | ret => exact harr
    | panic ch => exact harr
    | outgrown => exact harr
  cases e with
  | goto l' =>
    obtain ⟨rfl, hq⟩ := hq
    have hg : gotoIn l' (.inScope c :: k) = some (.code rest :: .inScope c :: k) := by simp [gotoIn, hf]
    obtain ⟨e₂, a₂, w₂, hq₂, harr₂⟩ := hq b (.inScope c :: k) cs hro hb hr
    have hne : ∀ l', e₂ ≠ .goto l' := fun l' he => by subst he; exact hq₂
    refine ⟨e₂, a₂, w₂, ?_, .of_steps (f0.trans (harr.1 _ hg)) (fin _ _ _ _ _ _ hne harr₂)⟩
    cases e₂ <;> first | exact hq₂ | exact hq₂.elim
  | normal => exact ⟨_, a₁, w₁, hq, .of_steps f0 (fin _ _ _ _ _ _ (by simp) harr)⟩
  | exit id => exact ⟨_, a₁, w₁, hq, .of_steps f0 (fin _ _ _ _ _ _ (by simp) harr)⟩
  | ret => exact ⟨_, a₁, w₁, hq, .of_steps f0 (fin _ _ _ _ _ _ (by simp) harr)⟩
  | panic ch => exact ⟨_, a₁, w₁, hq, .of_steps f0 (fin _ _ _ _ _ _ (by simp) harr)⟩
  | outgrown => exact ⟨_, a₁, w₁, hq, .of_steps f0 (fin _ _ _ _ _ _ (by simp) harr)⟩

theorem J_scope {c rest : Code} {l : Nat} (hf : findLabel c l = some rest) (h : ∀ K : Act → World → Prop, (∀ n ds rs H, J n ds rs H (rest.wpIn (Fc ρ) 0 P (noGo Q)) → J n ds rs H K) → J n ds rs H (c.wpIn (Fc ρ) 0 P (jumpQ l K Q))) :
    J n ds rs H ((Code.scope c).wpIn (Fc ρ) 0 P Q) := fun a w r s => wpIn_scope1 hf (h _ (fun _ _ _ _ h => h) a w r s)

theorem J_jump {l : Nat} {K : Act → World → Prop} (h : J n ds rs H K) : J n ds rs H (jumpQ l K Q (.goto l)) := fun a w r s => ⟨rfl, h a w r s⟩
end
end Go.Ws
