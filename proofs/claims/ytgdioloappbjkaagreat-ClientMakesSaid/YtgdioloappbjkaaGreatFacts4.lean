/- The closed facts of the row of clientMakes, each checked by itself. -/
import Derived.Test.YtgdioloappbjkaaGreatRows
import Derived.OpenShut
import Derived.JoinedOf
set_option linter.unusedSectionVars false
set_option linter.unusedVariables false
set_option linter.unusedSimpArgs false
namespace Go.Proofs.YtgdioloappbjkaaGreat.clientMakes

theorem and_mk {a b : Bool} (ha : a = true) (hb : b = true) : (a && b) = true := by rw [ha, hb]; rfl

theorem named : Tryz.prog.funcNamed Rows.clientMakesRow.func = some 4 := by kernel_rfl

set_option maxHeartbeats 0 in
set_option maxRecDepth 100000 in
theorem closed : joinedFacts Tryz.prog 4 Tryz.f4 Rows.clientMakesSpec Rows.clientMakesRow = true := by
  unfold joinedFacts
  repeat' with_reducible refine and_mk ?_ ?_
  all_goals as_aux_lemma => kernel_rfl

theorem inst : Tryz.f4.isInstance Tryz.prog Rows.clientMakesRow.origin Rows.clientMakesRow.targs := of_decide_eq_true (by kernel_rfl)
theorem wrap : Tryz.f4.isWrapper Tryz.prog Rows.clientMakesRow.wrapper Rows.clientMakesRow.mainSum := by
  unfold Func.isWrapper; first | (rw [if_pos (by decide +kernel)]; kernel_rfl) | (rw [if_neg (by decide +kernel)]; exact ⟨rfl, rfl⟩)
end Go.Proofs.YtgdioloappbjkaaGreat.clientMakes
