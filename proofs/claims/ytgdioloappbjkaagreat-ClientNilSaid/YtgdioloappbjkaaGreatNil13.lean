/- The row of clients that are not there: its body, by reckoning. -/
import Derived.Test.YtgdioloappbjkaaGreatDo13
import Derived.Test.YtgdioloappbjkaaGreatWsArg
namespace Go.Ws
open Go.Proofs Go.RowKit

noncomputable abbrev lv76 : List TypeId := (leaves Tryz.prog 4 76).getD []
theorem lv76_ok : leaves Tryz.prog 4 76 = some lv76 := by kernel_rfl
noncomputable abbrev actArgs (x : List Value) : List SV := [.agg (tagL Tryz.prog lv76 0 x)]

section
variable (x : List Value)
theorem nil13_1 : saysTrue (callD (.fn 5) (actArgs x) Hp.none) = true := by kernel_rfl

theorem nil13 {vs : List Value} (hd : dens noNames (actArgs x) = some vs) (W : World) : Calls Tryz.prog 5 vs.toArray W fun e w' => e = .returned (.bool true) ∧ Below W.heap.size W w' :=
  (calls_true callD_ok hd (nil13_1 x) (old_here W)).mono fun e w' ⟨h3, h4⟩ => ⟨h3, old_below h4⟩
end
end Go.Ws
