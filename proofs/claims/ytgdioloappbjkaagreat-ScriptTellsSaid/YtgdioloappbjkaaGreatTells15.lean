/- A deed's bytes, or that it may not be: the body, by reckoning. -/
import Derived.Test.YtgdioloappbjkaaGreatSums15
import Derived.Test.YtgdioloappbjkaaGreatOne15
namespace Go.Ws
open Go.Proofs Go.RowKit

section
variable (n0 n1 n2 n3 n4 n5 n6 n7 n8 : Int)
abbrev sameStr (a b : List Int) : Bool := (strOf a).toList == (strOf b).toList
abbrev ck : Int := chk n0 n1 n2 n3 n4 n5 n6 n7 n8

theorem tells_bad : ifTrue (callC (.fn 7) (deedArgs n0 n1 n2 n3 n4 n5 n6 n7 n8) ⟨.leaf, 0, [true, true, true, true], []⟩) =
    [(ck n0 n1 n2 n3 n4 n5 n6 n7 n8 == 250, true), (ck n0 n1 n2 n3 n4 n5 n6 n7 n8 == 250, true), (ck n0 n1 n2 n3 n4 n5 n6 n7 n8 != 0, true), (ck n0 n1 n2 n3 n4 n5 n6 n7 n8 != 0, true)] := by kernel_rfl
theorem tells_one : ifTrue (callC (.fn 7) (deedArgs n0 n1 n2 n3 n4 n5 n6 n7 n8) ⟨.leaf, 0, [false, true, false, true, true, true, true], []⟩) =
    [(ck n0 n1 n2 n3 n4 n5 n6 n7 n8 == 0, true), (ck n0 n1 n2 n3 n4 n5 n6 n7 n8 == 0, true), (sameStr [0, w8 (w64 (n2 - 1)), w8 n3, w8 n4, w8 n5] [0, w8 (w64 (n2 - 1)), w8 n3, w8 n4, w8 n5], true), (n0 == 1, true), (ck n0 n1 n2 n3 n4 n5 n6 n7 n8 != 0, false), (n0 == 1, true),
      (decide (n6 = n6), true), (decide (n7 = n7), true), (decide (n8 = n8), true), (ck n0 n1 n2 n3 n4 n5 n6 n7 n8 != 0, false)] := by kernel_rfl
theorem tells_two : ifTrue (callC (.fn 7) (deedArgs n0 n1 n2 n3 n4 n5 n6 n7 n8) ⟨.leaf, 0, [false, false, false, false, true, true, true], []⟩) =
    [(ck n0 n1 n2 n3 n4 n5 n6 n7 n8 == 0, true), (ck n0 n1 n2 n3 n4 n5 n6 n7 n8 == 0, true), (sameStr [1, w8 n1, w8 (w64 (n6 - 1)), w8 n7, w8 n8] [1, w8 n1, w8 (w64 (n6 - 1)), w8 n7, w8 n8], true), (n0 == 1, false), (ck n0 n1 n2 n3 n4 n5 n6 n7 n8 != 0, false), (n0 == 1, false),
      (decide (n6 = n6), true), (decide (n7 = n7), true), (decide (n8 = n8), true), (ck n0 n1 n2 n3 n4 n5 n6 n7 n8 != 0, false)] := by kernel_rfl

theorem tells15 (W : World) : Calls Tryz.prog 7 #[deedV n0 n1 n2 n3 n4 n5 n6 n7 n8] W fun e w' => e = .returned (.bool true) ∧ Below W.heap.size W w' := by
  have fin : ∀ {p : List Bool} {l : List (Bool × Bool)}, ifTrue (callC (.fn 7) (deedArgs n0 n1 n2 n3 n4 n5 n6 n7 n8) ⟨.leaf, 0, p, []⟩) = l → (∀ y ∈ l, y.1 = y.2) → Calls Tryz.prog 7 #[deedV n0 n1 n2 n3 n4 n5 n6 n7 n8] W fun e w' => e = .returned (.bool true) ∧ Below W.heap.size W w' := by
    intro p l h hl
    obtain ⟨hp, h1, h2⟩ := ifTrue_ok (by rw [h]; exact hl)
    exact (calls_ret (vs := [deedV n0 n1 n2 n3 n4 n5 n6 n7 n8]) callC_ok rfl h1 h2 (old_here W)).mono fun e w' ⟨h3, h4⟩ => ⟨h3, old_below h4⟩
  rcases chk_may n0 n1 n2 n3 n4 n5 n6 n7 n8 with ⟨h1, h2⟩ | ⟨_, h2⟩
  · unfold mayBe at h1
    rcases h1 with ⟨rfl, _⟩ | ⟨rfl, _⟩
    · refine fin (tells_one 1 n1 n2 n3 n4 n5 n6 n7 n8) ?_
      simp [h2]
    · refine fin (tells_two 2 n1 n2 n3 n4 n5 n6 n7 n8) ?_
      simp [h2]
  · refine fin (tells_bad n0 n1 n2 n3 n4 n5 n6 n7 n8) ?_
    simp [h2]
end
end Go.Ws
