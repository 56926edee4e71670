/- The deed that five bytes are: the body, by reckoning. -/
import Derived.Test.YtgdioloappbjkaaGreatBase
import Derived.Test.YtgdioloappbjkaaGreatWsInts
namespace Go.Ws
open Go.Proofs Go.RowKit

abbrev w64 (n : Int) : Int := IntKind.wrap .i64 n
abbrev w8 (n : Int) : Int := IntKind.wrap .u8 n

/-- Two deeds, part by part. -/
abbrev eqD (a0 a1 a2 a3 a4 a5 a6 a7 a8 b0 b1 b2 b3 b4 b5 b6 b7 b8 : Int) : Bool :=
  (a0 == b0) && ((a1 == b1) && (((a2 == b2) && ((a3 == b3) && ((a4 == b4) && ((a5 == b5) && true)))) && (((a6 == b6) && ((a7 == b7) && ((a8 == b8) && true))) && true)))

section
variable (n0 n1 n2 n3 n4 : Int)
abbrev fiveArgs : List SV := [.agg [.si .u8 n0, .si .u8 n1, .si .u8 n2, .si .u8 n3, .si .u8 n4]]

theorem one_even : ifTrue (callK (.fn 10) (fiveArgs n0 n1 n2 n3 n4) ⟨.leaf, 0, [false, true, false], []⟩) =
    [(!eqD 1 0 (w64 (1 + (w64 n1).tmod 15)) (w64 n2) (w64 n3) (w64 n4) 0 0 0 1 0 (w64 (w8 (1 + n1.tmod 15))) (w64 n2) (w64 n3) (w64 n4) 0 0 0, false), (n0.tmod 2 == 0, true), ((w64 n0).tmod 2 == 1, false)] := by kernel_rfl
theorem one_odd : ifTrue (callK (.fn 10) (fiveArgs n0 n1 n2 n3 n4) ⟨.leaf, 0, [true, false, false], []⟩) =
    [(!eqD 2 ((w64 n1).tmod 4) 0 0 0 0 (w64 (1 + (w64 n2).tmod 7)) (w64 n3) (w64 n4) 2 ((w64 n1).tmod 4) 0 0 0 0 (w64 (w8 (1 + n2.tmod 7))) (w64 n3) (w64 n4), false), (n0.tmod 2 == 0, false), ((w64 n0).tmod 2 == 1, true)] := by kernel_rfl

theorem has_u8 {n : Int} (h : IntKind.has .u8 n) : 0 ≤ n ∧ n < 256 := by
  simp only [IntKind.has, IntKind.min, IntKind.max, IntKind.signed, IntKind.bits] at h
  simp at h
  omega

theorem w64_small {n : Int} (h0 : 0 ≤ n) (h1 : n < 9223372036854775808) : w64 n = n := by
  simp [w64, IntKind.wrap, IntKind.signed, IntKind.bits]
  omega

theorem w8_small {n : Int} (h0 : 0 ≤ n) (h1 : n < 256) : w8 n = n := by
  simp [w8, IntKind.wrap, IntKind.signed, IntKind.bits]
  omega

theorem tmod_small {n : Int} (m : Int) (h0 : 0 ≤ n) (hm : 0 < m) : 0 ≤ n.tmod m ∧ n.tmod m < m := by
  rw [Int.tmod_eq_emod_of_nonneg h0]
  exact ⟨Int.emod_nonneg _ (by omega), Int.emod_lt_of_pos _ hm⟩

theorem same_kind {n : Int} (m : Int) (h : 0 ≤ n ∧ n < 256) (hm : 0 < m) (hm2 : m < 200) : w64 (1 + (w64 n).tmod m) = w64 (w8 (1 + n.tmod m)) := by
  have ht := tmod_small m h.1 hm
  rw [w64_small (n := n) h.1 (by omega), w8_small (n := 1 + n.tmod m) (by omega) (by omega)]

theorem one15 (h : within [.u8, .u8, .u8, .u8, .u8] [n0, n1, n2, n3, n4]) (W : World) : Calls Tryz.prog 10 #[.agg #[.int .u8 n0, .int .u8 n1, .int .u8 n2, .int .u8 n3, .int .u8 n4]] W fun e w' => e = .returned (.bool true) ∧ Below W.heap.size W w' := by
  simp only [within] at h
  obtain ⟨h0, h1, h2, _, _, _⟩ := h
  have h0 := has_u8 h0
  have h1 := has_u8 h1
  have h2 := has_u8 h2
  have ht := tmod_small 2 h0.1 (by decide)
  have fin : ∀ {p : List Bool} {l : List (Bool × Bool)}, ifTrue (callK (.fn 10) (fiveArgs n0 n1 n2 n3 n4) ⟨.leaf, 0, p, []⟩) = l → (∀ y ∈ l, y.1 = y.2) → Calls Tryz.prog 10 #[.agg #[.int .u8 n0, .int .u8 n1, .int .u8 n2, .int .u8 n3, .int .u8 n4]] W fun e w' => e = .returned (.bool true) ∧ Below W.heap.size W w' := by
    intro p l h hl
    obtain ⟨hp, h1, h2⟩ := ifTrue_ok (by rw [h]; exact hl)
    exact (calls_ret (vs := [.agg #[.int .u8 n0, .int .u8 n1, .int .u8 n2, .int .u8 n3, .int .u8 n4]]) callK_ok rfl h1 h2 (old_here W)).mono fun e w' ⟨h3, h4⟩ => ⟨h3, old_below h4⟩
  rcases (show n0.tmod 2 = 0 ∨ n0.tmod 2 = 1 by omega) with h | h
  · refine fin (one_even n0 n1 n2 n3 n4) ?_
    have e := same_kind 15 h1 (by decide) (by decide)
    simp [eqD, e, h, w64_small (n := n0) h0.1 (by omega)]
  · refine fin (one_odd n0 n1 n2 n3 n4) ?_
    have e := same_kind 7 h2 (by decide) (by decide)
    simp [eqD, e, h, w64_small (n := n0) h0.1 (by omega)]
end
end Go.Ws
