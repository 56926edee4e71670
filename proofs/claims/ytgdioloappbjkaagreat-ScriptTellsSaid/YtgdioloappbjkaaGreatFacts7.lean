/- The closed facts of the row of scriptTells, each checked by itself. -/
import Derived.Test.YtgdioloappbjkaaGreatRows
import Derived.OpenShut
import Derived.JoinedOf
namespace Go.Proofs.YtgdioloappbjkaaGreat.scriptTells

theorem and_mk {a b : Bool} (ha : a = true) (hb : b = true) : (a && b) = true := by rw [ha, hb]; rfl

theorem named : Tryz.prog.funcNamed Rows.scriptTellsRow.func = some 7 := by kernel_rfl

set_option maxHeartbeats 0 in
set_option maxRecDepth 100000 in
theorem closed : joinedFacts Tryz.prog 7 Tryz.f7 Rows.scriptTellsSpec Rows.scriptTellsRow = true := by
  unfold joinedFacts
  repeat' with_reducible refine and_mk ?_ ?_
  all_goals as_aux_lemma => kernel_rfl

theorem inst : Tryz.f7.isInstance Tryz.prog Rows.scriptTellsRow.origin Rows.scriptTellsRow.targs := of_decide_eq_true (by kernel_rfl)
theorem wrap : Tryz.f7.isWrapper Tryz.prog Rows.scriptTellsRow.wrapper Rows.scriptTellsRow.mainSum := by
  unfold Func.isWrapper; first | (rw [if_pos (by decide +kernel)]; kernel_rfl) | (rw [if_neg (by decide +kernel)]; exact ⟨rfl, rfl⟩)
end Go.Proofs.YtgdioloappbjkaaGreat.scriptTells
