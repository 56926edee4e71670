/- The closed facts of the row of clientNil, each checked by itself. -/
import Derived.Test.YtgdioloappbjkaaGreatRows
import Derived.OpenShut
import Derived.JoinedOf
namespace Go.Proofs.YtgdioloappbjkaaGreat.clientNil

theorem and_mk {a b : Bool} (ha : a = true) (hb : b = true) : (a && b) = true := by rw [ha, hb]; rfl

theorem named : Tryz.prog.funcNamed Rows.clientNilRow.func = some 5 := by kernel_rfl

set_option maxHeartbeats 0 in
set_option maxRecDepth 100000 in
theorem closed : joinedFacts Tryz.prog 5 Tryz.f5 Rows.clientNilSpec Rows.clientNilRow = true := by
  unfold joinedFacts
  repeat' with_reducible refine and_mk ?_ ?_
  all_goals as_aux_lemma => kernel_rfl

theorem inst : Tryz.f5.isInstance Tryz.prog Rows.clientNilRow.origin Rows.clientNilRow.targs := of_decide_eq_true (by kernel_rfl)
theorem wrap : Tryz.f5.isWrapper Tryz.prog Rows.clientNilRow.wrapper Rows.clientNilRow.mainSum := by
  unfold Func.isWrapper; first | (rw [if_pos (by decide +kernel)]; kernel_rfl) | (rw [if_neg (by decide +kernel)]; exact ⟨rfl, rfl⟩)
end Go.Proofs.YtgdioloappbjkaaGreat.clientNil
