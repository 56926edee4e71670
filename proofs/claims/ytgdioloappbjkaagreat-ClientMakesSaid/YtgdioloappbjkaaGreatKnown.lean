/- known(), works(), by reckoning; the plans' check. -/
import Derived.Test.YtgdioloappbjkaaGreatDevPlans
import Derived.Test.YtgdioloappbjkaaGreatWsLaw
import Derived.KernelRfl
import Derived.Test.YtgdioloappbjkaaGreatProg
set_option linter.unusedSectionVars false
set_option linter.unusedVariables false
set_option linter.unusedSimpArgs false
namespace Go.Ws
open Go.Proofs

def quietOf : Quiet := fun f => Nat.beq f 203 || Nat.beq f 87
noncomputable abbrev callT : CallR := callS Tryz.prog plansOf quietOf (fun _ _ _ => none) 200 30

theorem known12 : saysTrue (callT (.fn 12) [] Hp.none) = true := by kernel_rfl
theorem known13 : saysTrue (callT (.fn 26) [] Hp.none) = true := by kernel_rfl
theorem works15 : saysTrue (callT (.fn 36) [] Hp.none) = true := by kernel_rfl
end Go.Ws
