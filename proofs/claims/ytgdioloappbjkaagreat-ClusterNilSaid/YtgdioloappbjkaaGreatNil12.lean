/- The row of nil clusters: its body, by reckoning. -/
import Derived.Test.YtgdioloappbjkaaGreatBase
import Derived.Test.YtgdioloappbjkaaGreatWsArg
namespace Go.Ws
open Go.Proofs Go.RowKit

noncomputable abbrev lv24 : List TypeId := (leaves Tryz.prog 4 24).getD []
noncomputable abbrev lv39 : List TypeId := (leaves Tryz.prog 4 39).getD []
theorem lv24_ok : leaves Tryz.prog 4 24 = some lv24 := by kernel_rfl
theorem lv39_ok : leaves Tryz.prog 4 39 = some lv39 := by kernel_rfl

noncomputable abbrev nilArgs (x m : List Value) : List SV := [.agg (tagL Tryz.prog lv24 0 x), .agg (tagL Tryz.prog lv39 0 m)]
abbrev lenAt (m : List Value) (i : Nat) : Bool := decide ((slN (m.getD i undef) : Int) > 20)
abbrev kindIs (m : List Value) (i : Int) : Bool := decide (numV (m.getD 0 undef) = i)

section
variable (x m : List Value)
theorem nil12_1 : ifTrue (callK (.fn 3) (nilArgs x m) ⟨.leaf, 0, [true], []⟩) = [(lenAt m 6, true)] := by kernel_rfl
theorem nil12_2 : ifTrue (callK (.fn 3) (nilArgs x m) ⟨.leaf, 0, [false, true], []⟩) = [(lenAt m 23, true), (lenAt m 6, false)] := by kernel_rfl
theorem nil12_3 : ifTrue (callK (.fn 3) (nilArgs x m) ⟨.leaf, 0, [false, false, true], []⟩) = [(lenAt m 18, true), (lenAt m 23, false), (lenAt m 6, false)] := by kernel_rfl
theorem nil12_4 : ifTrue (callK (.fn 3) (nilArgs x m) ⟨.leaf, 0, [false, false, false, true], []⟩) = [(kindIs m 4, true), (lenAt m 18, false), (lenAt m 23, false), (lenAt m 6, false)] := by kernel_rfl
theorem nil12_5 : ifTrue (callK (.fn 3) (nilArgs x m) ⟨.leaf, 0, [false, false, false, false], []⟩) = [(kindIs m 4, false), (lenAt m 18, false), (lenAt m 23, false), (lenAt m 6, false)] := by kernel_rfl

theorem nil12 {vs : List Value} (hd : dens noNames (nilArgs x m) = some vs) (W : World) : Calls Tryz.prog 3 vs.toArray W fun e w' => e = .returned (.bool true) ∧ Below W.heap.size W w' := by
  have fin : ∀ {p : List Bool} {l : List (Bool × Bool)}, ifTrue (callK (.fn 3) (nilArgs x m) ⟨.leaf, 0, p, []⟩) = l → (∀ y ∈ l, y.1 = y.2) → Calls Tryz.prog 3 vs.toArray W fun e w' => e = .returned (.bool true) ∧ Below W.heap.size W w' := by
    intro p l h hl
    obtain ⟨hp, h1, h2⟩ := ifTrue_ok (by rw [h]; exact hl)
    exact (calls_ret callK_ok hd h1 h2 (old_here W)).mono fun e w' ⟨h3, h4⟩ => ⟨h3, old_below h4⟩
  cases h1 : lenAt m 6 with
  | true => exact fin (nil12_1 x m) (by simp [h1])
  | false =>
    cases h2 : lenAt m 23 with
    | true => exact fin (nil12_2 x m) (by simp [h1, h2])
    | false =>
      cases h3 : lenAt m 18 with
      | true => exact fin (nil12_3 x m) (by simp [h1, h2, h3])
      | false =>
        cases h4 : kindIs m 4 with
        | true => exact fin (nil12_4 x m) (by simp [h1, h2, h3, h4])
        | false => exact fin (nil12_5 x m) (by simp [h1, h2, h3, h4])
end
end Go.Ws
