/- The closed facts of the row of scriptOne, each checked by itself. -/
import Derived.Test.YtgdioloappbjkaaGreatRows
import Derived.OpenShut
import Derived.JoinedOf
namespace Go.Proofs.YtgdioloappbjkaaGreat.scriptOne

theorem and_mk {a b : Bool} (ha : a = true) (hb : b = true) : (a && b) = true := by rw [ha, hb]; rfl

theorem named : Tryz.prog.funcNamed Rows.scriptOneRow.func = some 10 := by kernel_rfl

set_option maxHeartbeats 0 in
set_option maxRecDepth 100000 in
theorem closed : joinedFacts Tryz.prog 10 Tryz.f10 Rows.scriptOneSpec Rows.scriptOneRow = true := by
  unfold joinedFacts
  repeat' with_reducible refine and_mk ?_ ?_
  all_goals as_aux_lemma => kernel_rfl

theorem inst : Tryz.f10.isInstance Tryz.prog Rows.scriptOneRow.origin Rows.scriptOneRow.targs := of_decide_eq_true (by kernel_rfl)
theorem wrap : Tryz.f10.isWrapper Tryz.prog Rows.scriptOneRow.wrapper Rows.scriptOneRow.mainSum := by
  unfold Func.isWrapper; first | (rw [if_pos (by decide +kernel)]; kernel_rfl) | (rw [if_neg (by decide +kernel)]; exact ⟨rfl, rfl⟩)
end Go.Proofs.YtgdioloappbjkaaGreat.scriptOne
