/- What this program's interpreter stands on: plans, names, what is deferred; the closed runs. -/
import Derived.Test.YtgdioloappbjkaaGreatChk
set_option linter.unusedSectionVars false
set_option linter.unusedVariables false
set_option linter.unusedSimpArgs false
namespace Go.Ws
open Go.Proofs

theorem noCall : CallOK Tryz.prog (fun _ _ _ => none) := ⟨fun _ _ _ _ _ h => (by cases h), fun _ _ _ _ _ h => (by cases h), fun _ _ _ _ _ h => (by cases h)⟩

theorem quietOK : QuietOK Tryz.prog quietOf := ⟨fun f hf xs w has => by
  simp only [quietOf, Bool.or_eq_true] at hf
  rcases hf with hf | hf
  · have := Nat.eq_of_beq_eq_true hf
    subst this
    exact ⟨Tryz.call203 xs w, quiet_of (call := fun _ _ _ => none) (plans := plansOf) (fuel := 5) noCall mixed Tryz.func203 rfl (by rw [Tryz.ntmps203]; decide) (by rw [Tryz.ntmps203]; decide) (by rw [Tryz.ntmps203]; decide) Tryz.results203 (by kernel_rfl) (by kernel_rfl) has⟩
  · have := Nat.eq_of_beq_eq_true hf
    subst this
    exact ⟨Tryz.call87 xs w, quiet_of (call := fun _ _ _ => none) (plans := plansOf) (fuel := 5) noCall mixed Tryz.func87 rfl (by rw [Tryz.ntmps87]; decide) (by rw [Tryz.ntmps87]; decide) (by rw [Tryz.ntmps87]; decide) Tryz.results87 (by kernel_rfl) (by kernel_rfl) has⟩⟩

theorem callT_ok : CallOK Tryz.prog callT := callS_ok noSums mixed nameOK plansOK quietOK 30

def isKnown (f : FuncId) : Bool := Nat.beq f 12 || Nat.beq f 26 || Nat.beq f 36
abbrev sumsK : Sums := trueSums isKnown

theorem runs12 {F : HP} {w : World} (s : Sat w F) : Calls Tryz.prog 12 #[] w fun e w' => e = .returned (.bool true) ∧ Sat w' F := calls_true callT_ok rfl known12 roF_none s
theorem runs26 {F : HP} {w : World} (s : Sat w F) : Calls Tryz.prog 26 #[] w fun e w' => e = .returned (.bool true) ∧ Sat w' F := calls_true callT_ok rfl known13 roF_none s
theorem runs36 {F : HP} {w : World} (s : Sat w F) : Calls Tryz.prog 36 #[] w fun e w' => e = .returned (.bool true) ∧ Sat w' F := calls_true callT_ok rfl works15 roF_none s

theorem sumsK_ok [A : Arrs] : SumsOK Tryz.prog sumsK := trueSums_ok fun f hf => by
  simp only [isKnown, Bool.or_eq_true] at hf
  rcases hf with (hf | hf) | hf <;> (have := Nat.eq_of_beq_eq_true hf; subst this)
  · exact ⟨Tryz.call12, fun F w s => runs12 s⟩
  · exact ⟨Tryz.call26, fun F w s => runs26 s⟩
  · exact ⟨Tryz.call36, fun F w s => runs36 s⟩

/-- With the closed runs known beforehand. -/
noncomputable abbrev callK [A : Arrs] : CallR := callS Tryz.prog plansOf quietOf sumsK 200 30
theorem callK_ok [A : Arrs] : CallOK Tryz.prog callK := callS_ok sumsK_ok mixed nameOK plansOK quietOK 30
end Go.Ws
