/- What Check says of a deed, here and in the document: by their questions; they say the same. -/
import Derived.Test.YtgdioloappbjkaaGreatBase
import Derived.Test.YtgdioloappbjkaaGreatWsInts
namespace Go.Ws
open Go.Proofs

def eqA (a b c : Int) : Bool := (a == 0) && ((b == 0) && ((c == 0) && true))
def eqC (a b c d : Int) : Bool := (a == 0) && ((b == 0) && ((c == 0) && ((d == 0) && true)))

/-- A number, and what must hold. -/
def numLeaf : Option (SV × Hp) → Option (Int × List (Bool × Bool))
  | some (.v (.int .i64 n), hp) => some (n, hp.conds)
  | _ => none

theorem numLeaf_ok {x : Option (SV × Hp)} {n : Int} {l : List (Bool × Bool)} (h : numLeaf x = some (n, l)) (hl : ∀ y ∈ l, y.1 = y.2) : ∃ hp, x = some (.v (.int .i64 n), hp) ∧ Holds hp := by
  unfold numLeaf at h
  split at h
  · simp only [Option.some.injEq, Prod.mk.injEq] at h
    obtain ⟨rfl, rfl⟩ := h
    exact ⟨_, rfl, hl⟩
  · cases h

theorem ac {a b : Bool} {l : List (Bool × Bool)} (h : a = b) (hl : ∀ y ∈ l, y.1 = y.2) : ∀ y ∈ (a, b) :: l, y.1 = y.2 := fun y hy => by
  rcases List.mem_cons.1 hy with rfl | hy
  · exact h
  · exact hl y hy
theorem an : ∀ y ∈ ([] : List (Bool × Bool)), y.1 = y.2 := fun y hy => by cases hy
theorem tr {n : Int} : decide (n = n) = true := by simp

/-- A call that yields a number, from a heap without named blocks. -/
theorem calls_num {P : Program} {call : CallR} (hc : CallOK P call) {f : FuncId} {args : List SV} {vs : List Value} {a : List Bool} {n : Int} {l : List (Bool × Bool)} (hd : dens noNames args = some vs) (h : numLeaf (call (.fn f) args ⟨.leaf, 0, a, []⟩) = some (n, l)) (hl : ∀ y ∈ l, y.1 = y.2)
    {F : HP} {w : World} (s : Sat w F) : Calls P f vs.toArray w fun e w' => e = .returned (.int .i64 n) ∧ Sat w' F := by
  obtain ⟨hp, h, ho⟩ := numLeaf_ok h hl
  refine ((hc.fn _ _ _ _ _ h).2 ho F noNames vs good_empty hd w (sat_leaf s)).mono ?_
  rintro e w' ⟨ι', vv, rfl, _, hv, s'⟩
  refine ⟨?_, s'.ent .dropr⟩
  simp only [den, Option.some.injEq] at hv
  rw [← hv]

section
variable (n0 n1 n2 n3 n4 n5 n6 n7 n8 : Int)
abbrev deedArgs : List SV := [.agg [.si .i64 n0, .si .i64 n1, .si .i64 n2, .si .i64 n3, .si .i64 n4, .si .i64 n5, .si .i64 n6, .si .i64 n7, .si .i64 n8]]
abbrev deedV : Value := .agg #[.int .i64 n0, .int .i64 n1, .int .i64 n2, .int .i64 n3, .int .i64 n4, .int .i64 n5, .int .i64 n6, .int .i64 n7, .int .i64 n8]

def chk : Int := bif n0 == 1 then (bif n1 == 0 then (bif eqA n6 n7 n8 then (bif decide (n2 < 1) then (250) else (bif decide (n2 > 15) then (250) else (bif decide (n3 < 0) then (250) else (bif decide (n3 > 255) then (250) else (bif decide (n4 < 0) then (250) else (bif decide (n4 > 255) then (250) else (bif decide (n5 < 0) then (250) else (bif decide (n5 > 255) then (250) else (0))))))))) else (250)) else (250)) else (bif n0 == 2 then (bif eqC n2 n3 n4 n5 then (bif decide (n1 < 0) then (250) else (bif decide (n1 > 3) then (250) else (bif decide (n6 < 1) then (250) else (bif decide (n6 > 7) then (250) else (bif decide (n7 < 0) then (250) else (bif decide (n7 > 255) then (250) else (bif decide (n8 < 0) then (250) else (bif decide (n8 > 255) then (250) else (0))))))))) else (250)) else (250))
theorem chk_0 : numLeaf (callK (.fn 38) (deedArgs n0 n1 n2 n3 n4 n5 n6 n7 n8) ⟨.leaf, 0, [true, true, true, true], []⟩) = some (250, [(decide (n2 < 1), true), (eqA n6 n7 n8, true), (n1 == 0, true), (n0 == 1, true), (decide (n6 = n6), true), (decide (n7 = n7), true), (decide (n8 = n8), true)]) := by kernel_rfl
theorem chk_1 : numLeaf (callK (.fn 38) (deedArgs n0 n1 n2 n3 n4 n5 n6 n7 n8) ⟨.leaf, 0, [true, true, true, false, true], []⟩) = some (250, [(decide (n2 > 15), true), (decide (n2 < 1), false), (eqA n6 n7 n8, true), (n1 == 0, true), (n0 == 1, true), (decide (n6 = n6), true), (decide (n7 = n7), true), (decide (n8 = n8), true)]) := by kernel_rfl
theorem chk_2 : numLeaf (callK (.fn 38) (deedArgs n0 n1 n2 n3 n4 n5 n6 n7 n8) ⟨.leaf, 0, [true, true, true, false, false, true], []⟩) = some (250, [(decide (n3 < 0), true), (decide (n2 > 15), false), (decide (n2 < 1), false), (eqA n6 n7 n8, true), (n1 == 0, true), (n0 == 1, true), (decide (n6 = n6), true), (decide (n7 = n7), true), (decide (n8 = n8), true)]) := by kernel_rfl
theorem chk_3 : numLeaf (callK (.fn 38) (deedArgs n0 n1 n2 n3 n4 n5 n6 n7 n8) ⟨.leaf, 0, [true, true, true, false, false, false, true], []⟩) = some (250, [(decide (n3 > 255), true), (decide (n3 < 0), false), (decide (n2 > 15), false), (decide (n2 < 1), false), (eqA n6 n7 n8, true), (n1 == 0, true), (n0 == 1, true), (decide (n6 = n6), true), (decide (n7 = n7), true), (decide (n8 = n8), true)]) := by kernel_rfl
theorem chk_4 : numLeaf (callK (.fn 38) (deedArgs n0 n1 n2 n3 n4 n5 n6 n7 n8) ⟨.leaf, 0, [true, true, true, false, false, false, false, true], []⟩) = some (250, [(decide (n4 < 0), true), (decide (n3 > 255), false), (decide (n3 < 0), false), (decide (n2 > 15), false), (decide (n2 < 1), false), (eqA n6 n7 n8, true), (n1 == 0, true), (n0 == 1, true), (decide (n6 = n6), true), (decide (n7 = n7), true), (decide (n8 = n8), true)]) := by kernel_rfl
theorem chk_5 : numLeaf (callK (.fn 38) (deedArgs n0 n1 n2 n3 n4 n5 n6 n7 n8) ⟨.leaf, 0, [true, true, true, false, false, false, false, false, true], []⟩) = some (250, [(decide (n4 > 255), true), (decide (n4 < 0), false), (decide (n3 > 255), false), (decide (n3 < 0), false), (decide (n2 > 15), false), (decide (n2 < 1), false), (eqA n6 n7 n8, true), (n1 == 0, true), (n0 == 1, true), (decide (n6 = n6), true), (decide (n7 = n7), true), (decide (n8 = n8), true)]) := by kernel_rfl
theorem chk_6 : numLeaf (callK (.fn 38) (deedArgs n0 n1 n2 n3 n4 n5 n6 n7 n8) ⟨.leaf, 0, [true, true, true, false, false, false, false, false, false, true], []⟩) = some (250, [(decide (n5 < 0), true), (decide (n4 > 255), false), (decide (n4 < 0), false), (decide (n3 > 255), false), (decide (n3 < 0), false), (decide (n2 > 15), false), (decide (n2 < 1), false), (eqA n6 n7 n8, true), (n1 == 0, true), (n0 == 1, true), (decide (n6 = n6), true), (decide (n7 = n7), true), (decide (n8 = n8), true)]) := by kernel_rfl
theorem chk_7 : numLeaf (callK (.fn 38) (deedArgs n0 n1 n2 n3 n4 n5 n6 n7 n8) ⟨.leaf, 0, [true, true, true, false, false, false, false, false, false, false, true], []⟩) = some (250, [(decide (n5 > 255), true), (decide (n5 < 0), false), (decide (n4 > 255), false), (decide (n4 < 0), false), (decide (n3 > 255), false), (decide (n3 < 0), false), (decide (n2 > 15), false), (decide (n2 < 1), false), (eqA n6 n7 n8, true), (n1 == 0, true), (n0 == 1, true), (decide (n6 = n6), true), (decide (n7 = n7), true), (decide (n8 = n8), true)]) := by kernel_rfl
theorem chk_8 : numLeaf (callK (.fn 38) (deedArgs n0 n1 n2 n3 n4 n5 n6 n7 n8) ⟨.leaf, 0, [true, true, true, false, false, false, false, false, false, false, false], []⟩) = some (0, [(decide (n5 > 255), false), (decide (n5 < 0), false), (decide (n4 > 255), false), (decide (n4 < 0), false), (decide (n3 > 255), false), (decide (n3 < 0), false), (decide (n2 > 15), false), (decide (n2 < 1), false), (eqA n6 n7 n8, true), (n1 == 0, true), (n0 == 1, true), (decide (n6 = n6), true), (decide (n7 = n7), true), (decide (n8 = n8), true)]) := by kernel_rfl
theorem chk_9 : numLeaf (callK (.fn 38) (deedArgs n0 n1 n2 n3 n4 n5 n6 n7 n8) ⟨.leaf, 0, [true, true, false], []⟩) = some (250, [(eqA n6 n7 n8, false), (n1 == 0, true), (n0 == 1, true), (decide (n6 = n6), true), (decide (n7 = n7), true), (decide (n8 = n8), true)]) := by kernel_rfl
theorem chk_10 : numLeaf (callK (.fn 38) (deedArgs n0 n1 n2 n3 n4 n5 n6 n7 n8) ⟨.leaf, 0, [true, false], []⟩) = some (250, [(n1 == 0, false), (n0 == 1, true), (decide (n6 = n6), true), (decide (n7 = n7), true), (decide (n8 = n8), true)]) := by kernel_rfl
theorem chk_11 : numLeaf (callK (.fn 38) (deedArgs n0 n1 n2 n3 n4 n5 n6 n7 n8) ⟨.leaf, 0, [false, true, true, true], []⟩) = some (250, [(decide (n1 < 0), true), (eqC n2 n3 n4 n5, true), (n0 == 2, true), (n0 == 1, false), (decide (n6 = n6), true), (decide (n7 = n7), true), (decide (n8 = n8), true)]) := by kernel_rfl
theorem chk_12 : numLeaf (callK (.fn 38) (deedArgs n0 n1 n2 n3 n4 n5 n6 n7 n8) ⟨.leaf, 0, [false, true, true, false, true], []⟩) = some (250, [(decide (n1 > 3), true), (decide (n1 < 0), false), (eqC n2 n3 n4 n5, true), (n0 == 2, true), (n0 == 1, false), (decide (n6 = n6), true), (decide (n7 = n7), true), (decide (n8 = n8), true)]) := by kernel_rfl
theorem chk_13 : numLeaf (callK (.fn 38) (deedArgs n0 n1 n2 n3 n4 n5 n6 n7 n8) ⟨.leaf, 0, [false, true, true, false, false, true], []⟩) = some (250, [(decide (n6 < 1), true), (decide (n1 > 3), false), (decide (n1 < 0), false), (eqC n2 n3 n4 n5, true), (n0 == 2, true), (n0 == 1, false), (decide (n6 = n6), true), (decide (n7 = n7), true), (decide (n8 = n8), true)]) := by kernel_rfl
theorem chk_14 : numLeaf (callK (.fn 38) (deedArgs n0 n1 n2 n3 n4 n5 n6 n7 n8) ⟨.leaf, 0, [false, true, true, false, false, false, true], []⟩) = some (250, [(decide (n6 > 7), true), (decide (n6 < 1), false), (decide (n1 > 3), false), (decide (n1 < 0), false), (eqC n2 n3 n4 n5, true), (n0 == 2, true), (n0 == 1, false), (decide (n6 = n6), true), (decide (n7 = n7), true), (decide (n8 = n8), true)]) := by kernel_rfl
theorem chk_15 : numLeaf (callK (.fn 38) (deedArgs n0 n1 n2 n3 n4 n5 n6 n7 n8) ⟨.leaf, 0, [false, true, true, false, false, false, false, true], []⟩) = some (250, [(decide (n7 < 0), true), (decide (n6 > 7), false), (decide (n6 < 1), false), (decide (n1 > 3), false), (decide (n1 < 0), false), (eqC n2 n3 n4 n5, true), (n0 == 2, true), (n0 == 1, false), (decide (n6 = n6), true), (decide (n7 = n7), true), (decide (n8 = n8), true)]) := by kernel_rfl
theorem chk_16 : numLeaf (callK (.fn 38) (deedArgs n0 n1 n2 n3 n4 n5 n6 n7 n8) ⟨.leaf, 0, [false, true, true, false, false, false, false, false, true], []⟩) = some (250, [(decide (n7 > 255), true), (decide (n7 < 0), false), (decide (n6 > 7), false), (decide (n6 < 1), false), (decide (n1 > 3), false), (decide (n1 < 0), false), (eqC n2 n3 n4 n5, true), (n0 == 2, true), (n0 == 1, false), (decide (n6 = n6), true), (decide (n7 = n7), true), (decide (n8 = n8), true)]) := by kernel_rfl
theorem chk_17 : numLeaf (callK (.fn 38) (deedArgs n0 n1 n2 n3 n4 n5 n6 n7 n8) ⟨.leaf, 0, [false, true, true, false, false, false, false, false, false, true], []⟩) = some (250, [(decide (n8 < 0), true), (decide (n7 > 255), false), (decide (n7 < 0), false), (decide (n6 > 7), false), (decide (n6 < 1), false), (decide (n1 > 3), false), (decide (n1 < 0), false), (eqC n2 n3 n4 n5, true), (n0 == 2, true), (n0 == 1, false), (decide (n6 = n6), true), (decide (n7 = n7), true), (decide (n8 = n8), true)]) := by kernel_rfl
theorem chk_18 : numLeaf (callK (.fn 38) (deedArgs n0 n1 n2 n3 n4 n5 n6 n7 n8) ⟨.leaf, 0, [false, true, true, false, false, false, false, false, false, false, true], []⟩) = some (250, [(decide (n8 > 255), true), (decide (n8 < 0), false), (decide (n7 > 255), false), (decide (n7 < 0), false), (decide (n6 > 7), false), (decide (n6 < 1), false), (decide (n1 > 3), false), (decide (n1 < 0), false), (eqC n2 n3 n4 n5, true), (n0 == 2, true), (n0 == 1, false), (decide (n6 = n6), true), (decide (n7 = n7), true), (decide (n8 = n8), true)]) := by kernel_rfl
theorem chk_19 : numLeaf (callK (.fn 38) (deedArgs n0 n1 n2 n3 n4 n5 n6 n7 n8) ⟨.leaf, 0, [false, true, true, false, false, false, false, false, false, false, false], []⟩) = some (0, [(decide (n8 > 255), false), (decide (n8 < 0), false), (decide (n7 > 255), false), (decide (n7 < 0), false), (decide (n6 > 7), false), (decide (n6 < 1), false), (decide (n1 > 3), false), (decide (n1 < 0), false), (eqC n2 n3 n4 n5, true), (n0 == 2, true), (n0 == 1, false), (decide (n6 = n6), true), (decide (n7 = n7), true), (decide (n8 = n8), true)]) := by kernel_rfl
theorem chk_20 : numLeaf (callK (.fn 38) (deedArgs n0 n1 n2 n3 n4 n5 n6 n7 n8) ⟨.leaf, 0, [false, true, false], []⟩) = some (250, [(eqC n2 n3 n4 n5, false), (n0 == 2, true), (n0 == 1, false), (decide (n6 = n6), true), (decide (n7 = n7), true), (decide (n8 = n8), true)]) := by kernel_rfl
theorem chk_21 : numLeaf (callK (.fn 38) (deedArgs n0 n1 n2 n3 n4 n5 n6 n7 n8) ⟨.leaf, 0, [false, false], []⟩) = some (250, [(n0 == 2, false), (n0 == 1, false), (decide (n6 = n6), true), (decide (n7 = n7), true), (decide (n8 = n8), true)]) := by kernel_rfl
theorem chk_ok {F : HP} {w : World} (s : Sat w F) : Calls Tryz.prog 38 #[deedV n0 n1 n2 n3 n4 n5 n6 n7 n8] w fun e w' => e = .returned (.int .i64 (chk n0 n1 n2 n3 n4 n5 n6 n7 n8)) ∧ Sat w' F := by
  have fin : ∀ {p : List Bool} {v : Int} {l : List (Bool × Bool)}, numLeaf (callK (.fn 38) (deedArgs n0 n1 n2 n3 n4 n5 n6 n7 n8) ⟨.leaf, 0, p, []⟩) = some (v, l) → (∀ y ∈ l, y.1 = y.2) → chk n0 n1 n2 n3 n4 n5 n6 n7 n8 = v → Calls Tryz.prog 38 #[deedV n0 n1 n2 n3 n4 n5 n6 n7 n8] w fun e w' => e = .returned (.int .i64 (chk n0 n1 n2 n3 n4 n5 n6 n7 n8)) ∧ Sat w' F := by
    intro p v l h hl hv
    rw [hv]
    exact calls_num (vs := [deedV n0 n1 n2 n3 n4 n5 n6 n7 n8]) callK_ok rfl h hl s
  cases h0 : (n0 == 1) with
  | true =>
    cases h1 : (n1 == 0) with
    | true =>
      cases h2 : (eqA n6 n7 n8) with
      | true =>
        cases h3 : (decide (n2 < 1)) with
        | true =>
          exact fin (chk_0 n0 n1 n2 n3 n4 n5 n6 n7 n8) (ac h3 (ac h2 (ac h1 (ac h0 (ac tr (ac tr (ac tr an))))))) (by simp only [chk, h0, h1, h2, h3, cond_true, cond_false])
        | false =>
          cases h4 : (decide (n2 > 15)) with
          | true =>
            exact fin (chk_1 n0 n1 n2 n3 n4 n5 n6 n7 n8) (ac h4 (ac h3 (ac h2 (ac h1 (ac h0 (ac tr (ac tr (ac tr an)))))))) (by simp only [chk, h0, h1, h2, h3, h4, cond_true, cond_false])
          | false =>
            cases h5 : (decide (n3 < 0)) with
            | true =>
              exact fin (chk_2 n0 n1 n2 n3 n4 n5 n6 n7 n8) (ac h5 (ac h4 (ac h3 (ac h2 (ac h1 (ac h0 (ac tr (ac tr (ac tr an))))))))) (by simp only [chk, h0, h1, h2, h3, h4, h5, cond_true, cond_false])
            | false =>
              cases h6 : (decide (n3 > 255)) with
              | true =>
                exact fin (chk_3 n0 n1 n2 n3 n4 n5 n6 n7 n8) (ac h6 (ac h5 (ac h4 (ac h3 (ac h2 (ac h1 (ac h0 (ac tr (ac tr (ac tr an)))))))))) (by simp only [chk, h0, h1, h2, h3, h4, h5, h6, cond_true, cond_false])
              | false =>
                cases h7 : (decide (n4 < 0)) with
                | true =>
                  exact fin (chk_4 n0 n1 n2 n3 n4 n5 n6 n7 n8) (ac h7 (ac h6 (ac h5 (ac h4 (ac h3 (ac h2 (ac h1 (ac h0 (ac tr (ac tr (ac tr an))))))))))) (by simp only [chk, h0, h1, h2, h3, h4, h5, h6, h7, cond_true, cond_false])
                | false =>
                  cases h8 : (decide (n4 > 255)) with
                  | true =>
                    exact fin (chk_5 n0 n1 n2 n3 n4 n5 n6 n7 n8) (ac h8 (ac h7 (ac h6 (ac h5 (ac h4 (ac h3 (ac h2 (ac h1 (ac h0 (ac tr (ac tr (ac tr an)))))))))))) (by simp only [chk, h0, h1, h2, h3, h4, h5, h6, h7, h8, cond_true, cond_false])
                  | false =>
                    cases h9 : (decide (n5 < 0)) with
                    | true =>
                      exact fin (chk_6 n0 n1 n2 n3 n4 n5 n6 n7 n8) (ac h9 (ac h8 (ac h7 (ac h6 (ac h5 (ac h4 (ac h3 (ac h2 (ac h1 (ac h0 (ac tr (ac tr (ac tr an))))))))))))) (by simp only [chk, h0, h1, h2, h3, h4, h5, h6, h7, h8, h9, cond_true, cond_false])
                    | false =>
                      cases h10 : (decide (n5 > 255)) with
                      | true =>
                        exact fin (chk_7 n0 n1 n2 n3 n4 n5 n6 n7 n8) (ac h10 (ac h9 (ac h8 (ac h7 (ac h6 (ac h5 (ac h4 (ac h3 (ac h2 (ac h1 (ac h0 (ac tr (ac tr (ac tr an)))))))))))))) (by simp only [chk, h0, h1, h2, h3, h4, h5, h6, h7, h8, h9, h10, cond_true, cond_false])
                      | false =>
                        exact fin (chk_8 n0 n1 n2 n3 n4 n5 n6 n7 n8) (ac h10 (ac h9 (ac h8 (ac h7 (ac h6 (ac h5 (ac h4 (ac h3 (ac h2 (ac h1 (ac h0 (ac tr (ac tr (ac tr an)))))))))))))) (by simp only [chk, h0, h1, h2, h3, h4, h5, h6, h7, h8, h9, h10, cond_true, cond_false])
      | false =>
        exact fin (chk_9 n0 n1 n2 n3 n4 n5 n6 n7 n8) (ac h2 (ac h1 (ac h0 (ac tr (ac tr (ac tr an)))))) (by simp only [chk, h0, h1, h2, cond_true, cond_false])
    | false =>
      exact fin (chk_10 n0 n1 n2 n3 n4 n5 n6 n7 n8) (ac h1 (ac h0 (ac tr (ac tr (ac tr an))))) (by simp only [chk, h0, h1, cond_true, cond_false])
  | false =>
    cases h1 : (n0 == 2) with
    | true =>
      cases h2 : (eqC n2 n3 n4 n5) with
      | true =>
        cases h3 : (decide (n1 < 0)) with
        | true =>
          exact fin (chk_11 n0 n1 n2 n3 n4 n5 n6 n7 n8) (ac h3 (ac h2 (ac h1 (ac h0 (ac tr (ac tr (ac tr an))))))) (by simp only [chk, h0, h1, h2, h3, cond_true, cond_false])
        | false =>
          cases h4 : (decide (n1 > 3)) with
          | true =>
            exact fin (chk_12 n0 n1 n2 n3 n4 n5 n6 n7 n8) (ac h4 (ac h3 (ac h2 (ac h1 (ac h0 (ac tr (ac tr (ac tr an)))))))) (by simp only [chk, h0, h1, h2, h3, h4, cond_true, cond_false])
          | false =>
            cases h5 : (decide (n6 < 1)) with
            | true =>
              exact fin (chk_13 n0 n1 n2 n3 n4 n5 n6 n7 n8) (ac h5 (ac h4 (ac h3 (ac h2 (ac h1 (ac h0 (ac tr (ac tr (ac tr an))))))))) (by simp only [chk, h0, h1, h2, h3, h4, h5, cond_true, cond_false])
            | false =>
              cases h6 : (decide (n6 > 7)) with
              | true =>
                exact fin (chk_14 n0 n1 n2 n3 n4 n5 n6 n7 n8) (ac h6 (ac h5 (ac h4 (ac h3 (ac h2 (ac h1 (ac h0 (ac tr (ac tr (ac tr an)))))))))) (by simp only [chk, h0, h1, h2, h3, h4, h5, h6, cond_true, cond_false])
              | false =>
                cases h7 : (decide (n7 < 0)) with
                | true =>
                  exact fin (chk_15 n0 n1 n2 n3 n4 n5 n6 n7 n8) (ac h7 (ac h6 (ac h5 (ac h4 (ac h3 (ac h2 (ac h1 (ac h0 (ac tr (ac tr (ac tr an))))))))))) (by simp only [chk, h0, h1, h2, h3, h4, h5, h6, h7, cond_true, cond_false])
                | false =>
                  cases h8 : (decide (n7 > 255)) with
                  | true =>
                    exact fin (chk_16 n0 n1 n2 n3 n4 n5 n6 n7 n8) (ac h8 (ac h7 (ac h6 (ac h5 (ac h4 (ac h3 (ac h2 (ac h1 (ac h0 (ac tr (ac tr (ac tr an)))))))))))) (by simp only [chk, h0, h1, h2, h3, h4, h5, h6, h7, h8, cond_true, cond_false])
                  | false =>
                    cases h9 : (decide (n8 < 0)) with
                    | true =>
                      exact fin (chk_17 n0 n1 n2 n3 n4 n5 n6 n7 n8) (ac h9 (ac h8 (ac h7 (ac h6 (ac h5 (ac h4 (ac h3 (ac h2 (ac h1 (ac h0 (ac tr (ac tr (ac tr an))))))))))))) (by simp only [chk, h0, h1, h2, h3, h4, h5, h6, h7, h8, h9, cond_true, cond_false])
                    | false =>
                      cases h10 : (decide (n8 > 255)) with
                      | true =>
                        exact fin (chk_18 n0 n1 n2 n3 n4 n5 n6 n7 n8) (ac h10 (ac h9 (ac h8 (ac h7 (ac h6 (ac h5 (ac h4 (ac h3 (ac h2 (ac h1 (ac h0 (ac tr (ac tr (ac tr an)))))))))))))) (by simp only [chk, h0, h1, h2, h3, h4, h5, h6, h7, h8, h9, h10, cond_true, cond_false])
                      | false =>
                        exact fin (chk_19 n0 n1 n2 n3 n4 n5 n6 n7 n8) (ac h10 (ac h9 (ac h8 (ac h7 (ac h6 (ac h5 (ac h4 (ac h3 (ac h2 (ac h1 (ac h0 (ac tr (ac tr (ac tr an)))))))))))))) (by simp only [chk, h0, h1, h2, h3, h4, h5, h6, h7, h8, h9, h10, cond_true, cond_false])
      | false =>
        exact fin (chk_20 n0 n1 n2 n3 n4 n5 n6 n7 n8) (ac h2 (ac h1 (ac h0 (ac tr (ac tr (ac tr an)))))) (by simp only [chk, h0, h1, h2, cond_true, cond_false])
    | false =>
      exact fin (chk_21 n0 n1 n2 n3 n4 n5 n6 n7 n8) (ac h1 (ac h0 (ac tr (ac tr (ac tr an))))) (by simp only [chk, h0, h1, cond_true, cond_false])

def chkR : Int := bif n0 == 1 then (bif n1 == 0 then (bif eqA n6 n7 n8 then (bif decide (n2 ≥ 1) then (bif decide (n2 ≤ 15) then (bif decide (n3 ≥ 0) then (bif decide (n3 ≤ 255) then (bif decide (n4 ≥ 0) then (bif decide (n4 ≤ 255) then (bif decide (n5 ≥ 0) then (bif !decide (n5 ≤ 255) then (250) else (0)) else (250)) else (250)) else (250)) else (250)) else (250)) else (250)) else (250)) else (250)) else (250)) else (bif n0 == 2 then (bif decide (n1 ≥ 0) then (bif decide (n1 ≤ 3) then (bif eqC n2 n3 n4 n5 then (bif decide (n6 ≥ 1) then (bif decide (n6 ≤ 7) then (bif decide (n7 ≥ 0) then (bif decide (n7 ≤ 255) then (bif decide (n8 ≥ 0) then (bif !decide (n8 ≤ 255) then (250) else (0)) else (250)) else (250)) else (250)) else (250)) else (250)) else (250)) else (250)) else (250)) else (250))
theorem chkR_0 : numLeaf (callK (.fn 39) (deedArgs n0 n1 n2 n3 n4 n5 n6 n7 n8) ⟨.leaf, 0, [true, true, true, true, true, true, true, true, true, true, true], []⟩) = some (250, [(!decide (n5 ≤ 255), true), (decide (n5 ≥ 0), true), (decide (n4 ≤ 255), true), (decide (n4 ≥ 0), true), (decide (n3 ≤ 255), true), (decide (n3 ≥ 0), true), (decide (n2 ≤ 15), true), (decide (n2 ≥ 1), true), (eqA n6 n7 n8, true), (n1 == 0, true), (n0 == 1, true), (decide (n6 = n6), true), (decide (n7 = n7), true), (decide (n8 = n8), true)]) := by kernel_rfl
theorem chkR_1 : numLeaf (callK (.fn 39) (deedArgs n0 n1 n2 n3 n4 n5 n6 n7 n8) ⟨.leaf, 0, [true, true, true, true, true, true, true, true, true, true, false], []⟩) = some (0, [(!decide (n5 ≤ 255), false), (decide (n5 ≥ 0), true), (decide (n4 ≤ 255), true), (decide (n4 ≥ 0), true), (decide (n3 ≤ 255), true), (decide (n3 ≥ 0), true), (decide (n2 ≤ 15), true), (decide (n2 ≥ 1), true), (eqA n6 n7 n8, true), (n1 == 0, true), (n0 == 1, true), (decide (n6 = n6), true), (decide (n7 = n7), true), (decide (n8 = n8), true)]) := by kernel_rfl
theorem chkR_2 : numLeaf (callK (.fn 39) (deedArgs n0 n1 n2 n3 n4 n5 n6 n7 n8) ⟨.leaf, 0, [true, true, true, true, true, true, true, true, true, false], []⟩) = some (250, [(decide (n5 ≥ 0), false), (decide (n4 ≤ 255), true), (decide (n4 ≥ 0), true), (decide (n3 ≤ 255), true), (decide (n3 ≥ 0), true), (decide (n2 ≤ 15), true), (decide (n2 ≥ 1), true), (eqA n6 n7 n8, true), (n1 == 0, true), (n0 == 1, true), (decide (n6 = n6), true), (decide (n7 = n7), true), (decide (n8 = n8), true)]) := by kernel_rfl
theorem chkR_3 : numLeaf (callK (.fn 39) (deedArgs n0 n1 n2 n3 n4 n5 n6 n7 n8) ⟨.leaf, 0, [true, true, true, true, true, true, true, true, false], []⟩) = some (250, [(decide (n4 ≤ 255), false), (decide (n4 ≥ 0), true), (decide (n3 ≤ 255), true), (decide (n3 ≥ 0), true), (decide (n2 ≤ 15), true), (decide (n2 ≥ 1), true), (eqA n6 n7 n8, true), (n1 == 0, true), (n0 == 1, true), (decide (n6 = n6), true), (decide (n7 = n7), true), (decide (n8 = n8), true)]) := by kernel_rfl
theorem chkR_4 : numLeaf (callK (.fn 39) (deedArgs n0 n1 n2 n3 n4 n5 n6 n7 n8) ⟨.leaf, 0, [true, true, true, true, true, true, true, false], []⟩) = some (250, [(decide (n4 ≥ 0), false), (decide (n3 ≤ 255), true), (decide (n3 ≥ 0), true), (decide (n2 ≤ 15), true), (decide (n2 ≥ 1), true), (eqA n6 n7 n8, true), (n1 == 0, true), (n0 == 1, true), (decide (n6 = n6), true), (decide (n7 = n7), true), (decide (n8 = n8), true)]) := by kernel_rfl
theorem chkR_5 : numLeaf (callK (.fn 39) (deedArgs n0 n1 n2 n3 n4 n5 n6 n7 n8) ⟨.leaf, 0, [true, true, true, true, true, true, false], []⟩) = some (250, [(decide (n3 ≤ 255), false), (decide (n3 ≥ 0), true), (decide (n2 ≤ 15), true), (decide (n2 ≥ 1), true), (eqA n6 n7 n8, true), (n1 == 0, true), (n0 == 1, true), (decide (n6 = n6), true), (decide (n7 = n7), true), (decide (n8 = n8), true)]) := by kernel_rfl
theorem chkR_6 : numLeaf (callK (.fn 39) (deedArgs n0 n1 n2 n3 n4 n5 n6 n7 n8) ⟨.leaf, 0, [true, true, true, true, true, false], []⟩) = some (250, [(decide (n3 ≥ 0), false), (decide (n2 ≤ 15), true), (decide (n2 ≥ 1), true), (eqA n6 n7 n8, true), (n1 == 0, true), (n0 == 1, true), (decide (n6 = n6), true), (decide (n7 = n7), true), (decide (n8 = n8), true)]) := by kernel_rfl
theorem chkR_7 : numLeaf (callK (.fn 39) (deedArgs n0 n1 n2 n3 n4 n5 n6 n7 n8) ⟨.leaf, 0, [true, true, true, true, false], []⟩) = some (250, [(decide (n2 ≤ 15), false), (decide (n2 ≥ 1), true), (eqA n6 n7 n8, true), (n1 == 0, true), (n0 == 1, true), (decide (n6 = n6), true), (decide (n7 = n7), true), (decide (n8 = n8), true)]) := by kernel_rfl
theorem chkR_8 : numLeaf (callK (.fn 39) (deedArgs n0 n1 n2 n3 n4 n5 n6 n7 n8) ⟨.leaf, 0, [true, true, true, false], []⟩) = some (250, [(decide (n2 ≥ 1), false), (eqA n6 n7 n8, true), (n1 == 0, true), (n0 == 1, true), (decide (n6 = n6), true), (decide (n7 = n7), true), (decide (n8 = n8), true)]) := by kernel_rfl
theorem chkR_9 : numLeaf (callK (.fn 39) (deedArgs n0 n1 n2 n3 n4 n5 n6 n7 n8) ⟨.leaf, 0, [true, true, false], []⟩) = some (250, [(eqA n6 n7 n8, false), (n1 == 0, true), (n0 == 1, true), (decide (n6 = n6), true), (decide (n7 = n7), true), (decide (n8 = n8), true)]) := by kernel_rfl
theorem chkR_10 : numLeaf (callK (.fn 39) (deedArgs n0 n1 n2 n3 n4 n5 n6 n7 n8) ⟨.leaf, 0, [true, false], []⟩) = some (250, [(n1 == 0, false), (n0 == 1, true), (decide (n6 = n6), true), (decide (n7 = n7), true), (decide (n8 = n8), true)]) := by kernel_rfl
theorem chkR_11 : numLeaf (callK (.fn 39) (deedArgs n0 n1 n2 n3 n4 n5 n6 n7 n8) ⟨.leaf, 0, [false, true, true, true, true, true, true, true, true, true, true], []⟩) = some (250, [(!decide (n8 ≤ 255), true), (decide (n8 ≥ 0), true), (decide (n7 ≤ 255), true), (decide (n7 ≥ 0), true), (decide (n6 ≤ 7), true), (decide (n6 ≥ 1), true), (eqC n2 n3 n4 n5, true), (decide (n1 ≤ 3), true), (decide (n1 ≥ 0), true), (n0 == 2, true), (n0 == 1, false), (decide (n6 = n6), true), (decide (n7 = n7), true), (decide (n8 = n8), true)]) := by kernel_rfl
theorem chkR_12 : numLeaf (callK (.fn 39) (deedArgs n0 n1 n2 n3 n4 n5 n6 n7 n8) ⟨.leaf, 0, [false, true, true, true, true, true, true, true, true, true, false], []⟩) = some (0, [(!decide (n8 ≤ 255), false), (decide (n8 ≥ 0), true), (decide (n7 ≤ 255), true), (decide (n7 ≥ 0), true), (decide (n6 ≤ 7), true), (decide (n6 ≥ 1), true), (eqC n2 n3 n4 n5, true), (decide (n1 ≤ 3), true), (decide (n1 ≥ 0), true), (n0 == 2, true), (n0 == 1, false), (decide (n6 = n6), true), (decide (n7 = n7), true), (decide (n8 = n8), true)]) := by kernel_rfl
theorem chkR_13 : numLeaf (callK (.fn 39) (deedArgs n0 n1 n2 n3 n4 n5 n6 n7 n8) ⟨.leaf, 0, [false, true, true, true, true, true, true, true, true, false], []⟩) = some (250, [(decide (n8 ≥ 0), false), (decide (n7 ≤ 255), true), (decide (n7 ≥ 0), true), (decide (n6 ≤ 7), true), (decide (n6 ≥ 1), true), (eqC n2 n3 n4 n5, true), (decide (n1 ≤ 3), true), (decide (n1 ≥ 0), true), (n0 == 2, true), (n0 == 1, false), (decide (n6 = n6), true), (decide (n7 = n7), true), (decide (n8 = n8), true)]) := by kernel_rfl
theorem chkR_14 : numLeaf (callK (.fn 39) (deedArgs n0 n1 n2 n3 n4 n5 n6 n7 n8) ⟨.leaf, 0, [false, true, true, true, true, true, true, true, false], []⟩) = some (250, [(decide (n7 ≤ 255), false), (decide (n7 ≥ 0), true), (decide (n6 ≤ 7), true), (decide (n6 ≥ 1), true), (eqC n2 n3 n4 n5, true), (decide (n1 ≤ 3), true), (decide (n1 ≥ 0), true), (n0 == 2, true), (n0 == 1, false), (decide (n6 = n6), true), (decide (n7 = n7), true), (decide (n8 = n8), true)]) := by kernel_rfl
theorem chkR_15 : numLeaf (callK (.fn 39) (deedArgs n0 n1 n2 n3 n4 n5 n6 n7 n8) ⟨.leaf, 0, [false, true, true, true, true, true, true, false], []⟩) = some (250, [(decide (n7 ≥ 0), false), (decide (n6 ≤ 7), true), (decide (n6 ≥ 1), true), (eqC n2 n3 n4 n5, true), (decide (n1 ≤ 3), true), (decide (n1 ≥ 0), true), (n0 == 2, true), (n0 == 1, false), (decide (n6 = n6), true), (decide (n7 = n7), true), (decide (n8 = n8), true)]) := by kernel_rfl
theorem chkR_16 : numLeaf (callK (.fn 39) (deedArgs n0 n1 n2 n3 n4 n5 n6 n7 n8) ⟨.leaf, 0, [false, true, true, true, true, true, false], []⟩) = some (250, [(decide (n6 ≤ 7), false), (decide (n6 ≥ 1), true), (eqC n2 n3 n4 n5, true), (decide (n1 ≤ 3), true), (decide (n1 ≥ 0), true), (n0 == 2, true), (n0 == 1, false), (decide (n6 = n6), true), (decide (n7 = n7), true), (decide (n8 = n8), true)]) := by kernel_rfl
theorem chkR_17 : numLeaf (callK (.fn 39) (deedArgs n0 n1 n2 n3 n4 n5 n6 n7 n8) ⟨.leaf, 0, [false, true, true, true, true, false], []⟩) = some (250, [(decide (n6 ≥ 1), false), (eqC n2 n3 n4 n5, true), (decide (n1 ≤ 3), true), (decide (n1 ≥ 0), true), (n0 == 2, true), (n0 == 1, false), (decide (n6 = n6), true), (decide (n7 = n7), true), (decide (n8 = n8), true)]) := by kernel_rfl
theorem chkR_18 : numLeaf (callK (.fn 39) (deedArgs n0 n1 n2 n3 n4 n5 n6 n7 n8) ⟨.leaf, 0, [false, true, true, true, false], []⟩) = some (250, [(eqC n2 n3 n4 n5, false), (decide (n1 ≤ 3), true), (decide (n1 ≥ 0), true), (n0 == 2, true), (n0 == 1, false), (decide (n6 = n6), true), (decide (n7 = n7), true), (decide (n8 = n8), true)]) := by kernel_rfl
theorem chkR_19 : numLeaf (callK (.fn 39) (deedArgs n0 n1 n2 n3 n4 n5 n6 n7 n8) ⟨.leaf, 0, [false, true, true, false], []⟩) = some (250, [(decide (n1 ≤ 3), false), (decide (n1 ≥ 0), true), (n0 == 2, true), (n0 == 1, false), (decide (n6 = n6), true), (decide (n7 = n7), true), (decide (n8 = n8), true)]) := by kernel_rfl
theorem chkR_20 : numLeaf (callK (.fn 39) (deedArgs n0 n1 n2 n3 n4 n5 n6 n7 n8) ⟨.leaf, 0, [false, true, false], []⟩) = some (250, [(decide (n1 ≥ 0), false), (n0 == 2, true), (n0 == 1, false), (decide (n6 = n6), true), (decide (n7 = n7), true), (decide (n8 = n8), true)]) := by kernel_rfl
theorem chkR_21 : numLeaf (callK (.fn 39) (deedArgs n0 n1 n2 n3 n4 n5 n6 n7 n8) ⟨.leaf, 0, [false, false], []⟩) = some (250, [(n0 == 2, false), (n0 == 1, false), (decide (n6 = n6), true), (decide (n7 = n7), true), (decide (n8 = n8), true)]) := by kernel_rfl
theorem chkR_ok {F : HP} {w : World} (s : Sat w F) : Calls Tryz.prog 39 #[deedV n0 n1 n2 n3 n4 n5 n6 n7 n8] w fun e w' => e = .returned (.int .i64 (chkR n0 n1 n2 n3 n4 n5 n6 n7 n8)) ∧ Sat w' F := by
  have fin : ∀ {p : List Bool} {v : Int} {l : List (Bool × Bool)}, numLeaf (callK (.fn 39) (deedArgs n0 n1 n2 n3 n4 n5 n6 n7 n8) ⟨.leaf, 0, p, []⟩) = some (v, l) → (∀ y ∈ l, y.1 = y.2) → chkR n0 n1 n2 n3 n4 n5 n6 n7 n8 = v → Calls Tryz.prog 39 #[deedV n0 n1 n2 n3 n4 n5 n6 n7 n8] w fun e w' => e = .returned (.int .i64 (chkR n0 n1 n2 n3 n4 n5 n6 n7 n8)) ∧ Sat w' F := by
    intro p v l h hl hv
    rw [hv]
    exact calls_num (vs := [deedV n0 n1 n2 n3 n4 n5 n6 n7 n8]) callK_ok rfl h hl s
  cases h0 : (n0 == 1) with
  | true =>
    cases h1 : (n1 == 0) with
    | true =>
      cases h2 : (eqA n6 n7 n8) with
      | true =>
        cases h3 : (decide (n2 ≥ 1)) with
        | true =>
          cases h4 : (decide (n2 ≤ 15)) with
          | true =>
            cases h5 : (decide (n3 ≥ 0)) with
            | true =>
              cases h6 : (decide (n3 ≤ 255)) with
              | true =>
                cases h7 : (decide (n4 ≥ 0)) with
                | true =>
                  cases h8 : (decide (n4 ≤ 255)) with
                  | true =>
                    cases h9 : (decide (n5 ≥ 0)) with
                    | true =>
                      cases h10 : (!decide (n5 ≤ 255)) with
                      | true =>
                        exact fin (chkR_0 n0 n1 n2 n3 n4 n5 n6 n7 n8) (ac h10 (ac h9 (ac h8 (ac h7 (ac h6 (ac h5 (ac h4 (ac h3 (ac h2 (ac h1 (ac h0 (ac tr (ac tr (ac tr an)))))))))))))) (by simp only [chkR, h0, h1, h2, h3, h4, h5, h6, h7, h8, h9, h10, cond_true, cond_false])
                      | false =>
                        exact fin (chkR_1 n0 n1 n2 n3 n4 n5 n6 n7 n8) (ac h10 (ac h9 (ac h8 (ac h7 (ac h6 (ac h5 (ac h4 (ac h3 (ac h2 (ac h1 (ac h0 (ac tr (ac tr (ac tr an)))))))))))))) (by simp only [chkR, h0, h1, h2, h3, h4, h5, h6, h7, h8, h9, h10, cond_true, cond_false])
                    | false =>
                      exact fin (chkR_2 n0 n1 n2 n3 n4 n5 n6 n7 n8) (ac h9 (ac h8 (ac h7 (ac h6 (ac h5 (ac h4 (ac h3 (ac h2 (ac h1 (ac h0 (ac tr (ac tr (ac tr an))))))))))))) (by simp only [chkR, h0, h1, h2, h3, h4, h5, h6, h7, h8, h9, cond_true, cond_false])
                  | false =>
                    exact fin (chkR_3 n0 n1 n2 n3 n4 n5 n6 n7 n8) (ac h8 (ac h7 (ac h6 (ac h5 (ac h4 (ac h3 (ac h2 (ac h1 (ac h0 (ac tr (ac tr (ac tr an)))))))))))) (by simp only [chkR, h0, h1, h2, h3, h4, h5, h6, h7, h8, cond_true, cond_false])
                | false =>
                  exact fin (chkR_4 n0 n1 n2 n3 n4 n5 n6 n7 n8) (ac h7 (ac h6 (ac h5 (ac h4 (ac h3 (ac h2 (ac h1 (ac h0 (ac tr (ac tr (ac tr an))))))))))) (by simp only [chkR, h0, h1, h2, h3, h4, h5, h6, h7, cond_true, cond_false])
              | false =>
                exact fin (chkR_5 n0 n1 n2 n3 n4 n5 n6 n7 n8) (ac h6 (ac h5 (ac h4 (ac h3 (ac h2 (ac h1 (ac h0 (ac tr (ac tr (ac tr an)))))))))) (by simp only [chkR, h0, h1, h2, h3, h4, h5, h6, cond_true, cond_false])
            | false =>
              exact fin (chkR_6 n0 n1 n2 n3 n4 n5 n6 n7 n8) (ac h5 (ac h4 (ac h3 (ac h2 (ac h1 (ac h0 (ac tr (ac tr (ac tr an))))))))) (by simp only [chkR, h0, h1, h2, h3, h4, h5, cond_true, cond_false])
          | false =>
            exact fin (chkR_7 n0 n1 n2 n3 n4 n5 n6 n7 n8) (ac h4 (ac h3 (ac h2 (ac h1 (ac h0 (ac tr (ac tr (ac tr an)))))))) (by simp only [chkR, h0, h1, h2, h3, h4, cond_true, cond_false])
        | false =>
          exact fin (chkR_8 n0 n1 n2 n3 n4 n5 n6 n7 n8) (ac h3 (ac h2 (ac h1 (ac h0 (ac tr (ac tr (ac tr an))))))) (by simp only [chkR, h0, h1, h2, h3, cond_true, cond_false])
      | false =>
        exact fin (chkR_9 n0 n1 n2 n3 n4 n5 n6 n7 n8) (ac h2 (ac h1 (ac h0 (ac tr (ac tr (ac tr an)))))) (by simp only [chkR, h0, h1, h2, cond_true, cond_false])
    | false =>
      exact fin (chkR_10 n0 n1 n2 n3 n4 n5 n6 n7 n8) (ac h1 (ac h0 (ac tr (ac tr (ac tr an))))) (by simp only [chkR, h0, h1, cond_true, cond_false])
  | false =>
    cases h1 : (n0 == 2) with
    | true =>
      cases h2 : (decide (n1 ≥ 0)) with
      | true =>
        cases h3 : (decide (n1 ≤ 3)) with
        | true =>
          cases h4 : (eqC n2 n3 n4 n5) with
          | true =>
            cases h5 : (decide (n6 ≥ 1)) with
            | true =>
              cases h6 : (decide (n6 ≤ 7)) with
              | true =>
                cases h7 : (decide (n7 ≥ 0)) with
                | true =>
                  cases h8 : (decide (n7 ≤ 255)) with
                  | true =>
                    cases h9 : (decide (n8 ≥ 0)) with
                    | true =>
                      cases h10 : (!decide (n8 ≤ 255)) with
                      | true =>
                        exact fin (chkR_11 n0 n1 n2 n3 n4 n5 n6 n7 n8) (ac h10 (ac h9 (ac h8 (ac h7 (ac h6 (ac h5 (ac h4 (ac h3 (ac h2 (ac h1 (ac h0 (ac tr (ac tr (ac tr an)))))))))))))) (by simp only [chkR, h0, h1, h2, h3, h4, h5, h6, h7, h8, h9, h10, cond_true, cond_false])
                      | false =>
                        exact fin (chkR_12 n0 n1 n2 n3 n4 n5 n6 n7 n8) (ac h10 (ac h9 (ac h8 (ac h7 (ac h6 (ac h5 (ac h4 (ac h3 (ac h2 (ac h1 (ac h0 (ac tr (ac tr (ac tr an)))))))))))))) (by simp only [chkR, h0, h1, h2, h3, h4, h5, h6, h7, h8, h9, h10, cond_true, cond_false])
                    | false =>
                      exact fin (chkR_13 n0 n1 n2 n3 n4 n5 n6 n7 n8) (ac h9 (ac h8 (ac h7 (ac h6 (ac h5 (ac h4 (ac h3 (ac h2 (ac h1 (ac h0 (ac tr (ac tr (ac tr an))))))))))))) (by simp only [chkR, h0, h1, h2, h3, h4, h5, h6, h7, h8, h9, cond_true, cond_false])
                  | false =>
                    exact fin (chkR_14 n0 n1 n2 n3 n4 n5 n6 n7 n8) (ac h8 (ac h7 (ac h6 (ac h5 (ac h4 (ac h3 (ac h2 (ac h1 (ac h0 (ac tr (ac tr (ac tr an)))))))))))) (by simp only [chkR, h0, h1, h2, h3, h4, h5, h6, h7, h8, cond_true, cond_false])
                | false =>
                  exact fin (chkR_15 n0 n1 n2 n3 n4 n5 n6 n7 n8) (ac h7 (ac h6 (ac h5 (ac h4 (ac h3 (ac h2 (ac h1 (ac h0 (ac tr (ac tr (ac tr an))))))))))) (by simp only [chkR, h0, h1, h2, h3, h4, h5, h6, h7, cond_true, cond_false])
              | false =>
                exact fin (chkR_16 n0 n1 n2 n3 n4 n5 n6 n7 n8) (ac h6 (ac h5 (ac h4 (ac h3 (ac h2 (ac h1 (ac h0 (ac tr (ac tr (ac tr an)))))))))) (by simp only [chkR, h0, h1, h2, h3, h4, h5, h6, cond_true, cond_false])
            | false =>
              exact fin (chkR_17 n0 n1 n2 n3 n4 n5 n6 n7 n8) (ac h5 (ac h4 (ac h3 (ac h2 (ac h1 (ac h0 (ac tr (ac tr (ac tr an))))))))) (by simp only [chkR, h0, h1, h2, h3, h4, h5, cond_true, cond_false])
          | false =>
            exact fin (chkR_18 n0 n1 n2 n3 n4 n5 n6 n7 n8) (ac h4 (ac h3 (ac h2 (ac h1 (ac h0 (ac tr (ac tr (ac tr an)))))))) (by simp only [chkR, h0, h1, h2, h3, h4, cond_true, cond_false])
        | false =>
          exact fin (chkR_19 n0 n1 n2 n3 n4 n5 n6 n7 n8) (ac h3 (ac h2 (ac h1 (ac h0 (ac tr (ac tr (ac tr an))))))) (by simp only [chkR, h0, h1, h2, h3, cond_true, cond_false])
      | false =>
        exact fin (chkR_20 n0 n1 n2 n3 n4 n5 n6 n7 n8) (ac h2 (ac h1 (ac h0 (ac tr (ac tr (ac tr an)))))) (by simp only [chkR, h0, h1, h2, cond_true, cond_false])
    | false =>
      exact fin (chkR_21 n0 n1 n2 n3 n4 n5 n6 n7 n8) (ac h1 (ac h0 (ac tr (ac tr (ac tr an))))) (by simp only [chkR, h0, h1, cond_true, cond_false])

/-- May this deed be? -/
def mayBe : Prop := (n0 = 1 ∧ n1 = 0 ∧ n6 = 0 ∧ n7 = 0 ∧ n8 = 0 ∧ 1 ≤ n2 ∧ n2 ≤ 15 ∧ 0 ≤ n3 ∧ n3 ≤ 255 ∧ 0 ≤ n4 ∧ n4 ≤ 255 ∧ 0 ≤ n5 ∧ n5 ≤ 255) ∨
  (n0 = 2 ∧ 0 ≤ n1 ∧ n1 ≤ 3 ∧ n2 = 0 ∧ n3 = 0 ∧ n4 = 0 ∧ n5 = 0 ∧ 1 ≤ n6 ∧ n6 ≤ 7 ∧ 0 ≤ n7 ∧ n7 ≤ 255 ∧ 0 ≤ n8 ∧ n8 ≤ 255)


theorem chk_may : (mayBe n0 n1 n2 n3 n4 n5 n6 n7 n8 ∧ chk n0 n1 n2 n3 n4 n5 n6 n7 n8 = 0) ∨ (¬ mayBe n0 n1 n2 n3 n4 n5 n6 n7 n8 ∧ chk n0 n1 n2 n3 n4 n5 n6 n7 n8 = 250) := by
  cases h0 : (n0 == 1) with
  | true =>
    cases h1 : (n1 == 0) with
    | true =>
      cases h2 : (eqA n6 n7 n8) with
      | true =>
        cases h3 : (decide (n2 < 1)) with
        | true =>
          refine .inr ⟨?_, by simp only [chk, h0, h1, h2, h3, cond_true, cond_false]⟩
          simp [eqA, eqC] at h0 h1 h2 h3
          unfold mayBe; omega
        | false =>
          cases h4 : (decide (n2 > 15)) with
          | true =>
            refine .inr ⟨?_, by simp only [chk, h0, h1, h2, h3, h4, cond_true, cond_false]⟩
            simp [eqA, eqC] at h0 h1 h2 h3 h4
            unfold mayBe; omega
          | false =>
            cases h5 : (decide (n3 < 0)) with
            | true =>
              refine .inr ⟨?_, by simp only [chk, h0, h1, h2, h3, h4, h5, cond_true, cond_false]⟩
              simp [eqA, eqC] at h0 h1 h2 h3 h4 h5
              unfold mayBe; omega
            | false =>
              cases h6 : (decide (n3 > 255)) with
              | true =>
                refine .inr ⟨?_, by simp only [chk, h0, h1, h2, h3, h4, h5, h6, cond_true, cond_false]⟩
                simp [eqA, eqC] at h0 h1 h2 h3 h4 h5 h6
                unfold mayBe; omega
              | false =>
                cases h7 : (decide (n4 < 0)) with
                | true =>
                  refine .inr ⟨?_, by simp only [chk, h0, h1, h2, h3, h4, h5, h6, h7, cond_true, cond_false]⟩
                  simp [eqA, eqC] at h0 h1 h2 h3 h4 h5 h6 h7
                  unfold mayBe; omega
                | false =>
                  cases h8 : (decide (n4 > 255)) with
                  | true =>
                    refine .inr ⟨?_, by simp only [chk, h0, h1, h2, h3, h4, h5, h6, h7, h8, cond_true, cond_false]⟩
                    simp [eqA, eqC] at h0 h1 h2 h3 h4 h5 h6 h7 h8
                    unfold mayBe; omega
                  | false =>
                    cases h9 : (decide (n5 < 0)) with
                    | true =>
                      refine .inr ⟨?_, by simp only [chk, h0, h1, h2, h3, h4, h5, h6, h7, h8, h9, cond_true, cond_false]⟩
                      simp [eqA, eqC] at h0 h1 h2 h3 h4 h5 h6 h7 h8 h9
                      unfold mayBe; omega
                    | false =>
                      cases h10 : (decide (n5 > 255)) with
                      | true =>
                        refine .inr ⟨?_, by simp only [chk, h0, h1, h2, h3, h4, h5, h6, h7, h8, h9, h10, cond_true, cond_false]⟩
                        simp [eqA, eqC] at h0 h1 h2 h3 h4 h5 h6 h7 h8 h9 h10
                        unfold mayBe; omega
                      | false =>
                        refine .inl ⟨?_, by simp only [chk, h0, h1, h2, h3, h4, h5, h6, h7, h8, h9, h10, cond_true, cond_false]⟩
                        simp [eqA, eqC] at h0 h1 h2 h3 h4 h5 h6 h7 h8 h9 h10
                        unfold mayBe; omega
      | false =>
        refine .inr ⟨?_, by simp only [chk, h0, h1, h2, cond_true, cond_false]⟩
        simp [eqA, eqC] at h0 h1 h2
        unfold mayBe; omega
    | false =>
      refine .inr ⟨?_, by simp only [chk, h0, h1, cond_true, cond_false]⟩
      simp [eqA, eqC] at h0 h1
      unfold mayBe; omega
  | false =>
    cases h1 : (n0 == 2) with
    | true =>
      cases h2 : (eqC n2 n3 n4 n5) with
      | true =>
        cases h3 : (decide (n1 < 0)) with
        | true =>
          refine .inr ⟨?_, by simp only [chk, h0, h1, h2, h3, cond_true, cond_false]⟩
          simp [eqA, eqC] at h0 h1 h2 h3
          unfold mayBe; omega
        | false =>
          cases h4 : (decide (n1 > 3)) with
          | true =>
            refine .inr ⟨?_, by simp only [chk, h0, h1, h2, h3, h4, cond_true, cond_false]⟩
            simp [eqA, eqC] at h0 h1 h2 h3 h4
            unfold mayBe; omega
          | false =>
            cases h5 : (decide (n6 < 1)) with
            | true =>
              refine .inr ⟨?_, by simp only [chk, h0, h1, h2, h3, h4, h5, cond_true, cond_false]⟩
              simp [eqA, eqC] at h0 h1 h2 h3 h4 h5
              unfold mayBe; omega
            | false =>
              cases h6 : (decide (n6 > 7)) with
              | true =>
                refine .inr ⟨?_, by simp only [chk, h0, h1, h2, h3, h4, h5, h6, cond_true, cond_false]⟩
                simp [eqA, eqC] at h0 h1 h2 h3 h4 h5 h6
                unfold mayBe; omega
              | false =>
                cases h7 : (decide (n7 < 0)) with
                | true =>
                  refine .inr ⟨?_, by simp only [chk, h0, h1, h2, h3, h4, h5, h6, h7, cond_true, cond_false]⟩
                  simp [eqA, eqC] at h0 h1 h2 h3 h4 h5 h6 h7
                  unfold mayBe; omega
                | false =>
                  cases h8 : (decide (n7 > 255)) with
                  | true =>
                    refine .inr ⟨?_, by simp only [chk, h0, h1, h2, h3, h4, h5, h6, h7, h8, cond_true, cond_false]⟩
                    simp [eqA, eqC] at h0 h1 h2 h3 h4 h5 h6 h7 h8
                    unfold mayBe; omega
                  | false =>
                    cases h9 : (decide (n8 < 0)) with
                    | true =>
                      refine .inr ⟨?_, by simp only [chk, h0, h1, h2, h3, h4, h5, h6, h7, h8, h9, cond_true, cond_false]⟩
                      simp [eqA, eqC] at h0 h1 h2 h3 h4 h5 h6 h7 h8 h9
                      unfold mayBe; omega
                    | false =>
                      cases h10 : (decide (n8 > 255)) with
                      | true =>
                        refine .inr ⟨?_, by simp only [chk, h0, h1, h2, h3, h4, h5, h6, h7, h8, h9, h10, cond_true, cond_false]⟩
                        simp [eqA, eqC] at h0 h1 h2 h3 h4 h5 h6 h7 h8 h9 h10
                        unfold mayBe; omega
                      | false =>
                        refine .inl ⟨?_, by simp only [chk, h0, h1, h2, h3, h4, h5, h6, h7, h8, h9, h10, cond_true, cond_false]⟩
                        simp [eqA, eqC] at h0 h1 h2 h3 h4 h5 h6 h7 h8 h9 h10
                        unfold mayBe; omega
      | false =>
        refine .inr ⟨?_, by simp only [chk, h0, h1, h2, cond_true, cond_false]⟩
        simp [eqA, eqC] at h0 h1 h2
        unfold mayBe; omega
    | false =>
      refine .inr ⟨?_, by simp only [chk, h0, h1, cond_true, cond_false]⟩
      simp [eqA, eqC] at h0 h1
      unfold mayBe; omega

theorem chkR_may : (mayBe n0 n1 n2 n3 n4 n5 n6 n7 n8 ∧ chkR n0 n1 n2 n3 n4 n5 n6 n7 n8 = 0) ∨ (¬ mayBe n0 n1 n2 n3 n4 n5 n6 n7 n8 ∧ chkR n0 n1 n2 n3 n4 n5 n6 n7 n8 = 250) := by
  cases h0 : (n0 == 1) with
  | true =>
    cases h1 : (n1 == 0) with
    | true =>
      cases h2 : (eqA n6 n7 n8) with
      | true =>
        cases h3 : (decide (n2 ≥ 1)) with
        | true =>
          cases h4 : (decide (n2 ≤ 15)) with
          | true =>
            cases h5 : (decide (n3 ≥ 0)) with
            | true =>
              cases h6 : (decide (n3 ≤ 255)) with
              | true =>
                cases h7 : (decide (n4 ≥ 0)) with
                | true =>
                  cases h8 : (decide (n4 ≤ 255)) with
                  | true =>
                    cases h9 : (decide (n5 ≥ 0)) with
                    | true =>
                      cases h10 : (!decide (n5 ≤ 255)) with
                      | true =>
                        refine .inr ⟨?_, by simp only [chkR, h0, h1, h2, h3, h4, h5, h6, h7, h8, h9, h10, cond_true, cond_false]⟩
                        simp [eqA, eqC] at h0 h1 h2 h3 h4 h5 h6 h7 h8 h9 h10
                        unfold mayBe; omega
                      | false =>
                        refine .inl ⟨?_, by simp only [chkR, h0, h1, h2, h3, h4, h5, h6, h7, h8, h9, h10, cond_true, cond_false]⟩
                        simp [eqA, eqC] at h0 h1 h2 h3 h4 h5 h6 h7 h8 h9 h10
                        unfold mayBe; omega
                    | false =>
                      refine .inr ⟨?_, by simp only [chkR, h0, h1, h2, h3, h4, h5, h6, h7, h8, h9, cond_true, cond_false]⟩
                      simp [eqA, eqC] at h0 h1 h2 h3 h4 h5 h6 h7 h8 h9
                      unfold mayBe; omega
                  | false =>
                    refine .inr ⟨?_, by simp only [chkR, h0, h1, h2, h3, h4, h5, h6, h7, h8, cond_true, cond_false]⟩
                    simp [eqA, eqC] at h0 h1 h2 h3 h4 h5 h6 h7 h8
                    unfold mayBe; omega
                | false =>
                  refine .inr ⟨?_, by simp only [chkR, h0, h1, h2, h3, h4, h5, h6, h7, cond_true, cond_false]⟩
                  simp [eqA, eqC] at h0 h1 h2 h3 h4 h5 h6 h7
                  unfold mayBe; omega
              | false =>
                refine .inr ⟨?_, by simp only [chkR, h0, h1, h2, h3, h4, h5, h6, cond_true, cond_false]⟩
                simp [eqA, eqC] at h0 h1 h2 h3 h4 h5 h6
                unfold mayBe; omega
            | false =>
              refine .inr ⟨?_, by simp only [chkR, h0, h1, h2, h3, h4, h5, cond_true, cond_false]⟩
              simp [eqA, eqC] at h0 h1 h2 h3 h4 h5
              unfold mayBe; omega
          | false =>
            refine .inr ⟨?_, by simp only [chkR, h0, h1, h2, h3, h4, cond_true, cond_false]⟩
            simp [eqA, eqC] at h0 h1 h2 h3 h4
            unfold mayBe; omega
        | false =>
          refine .inr ⟨?_, by simp only [chkR, h0, h1, h2, h3, cond_true, cond_false]⟩
          simp [eqA, eqC] at h0 h1 h2 h3
          unfold mayBe; omega
      | false =>
        refine .inr ⟨?_, by simp only [chkR, h0, h1, h2, cond_true, cond_false]⟩
        simp [eqA, eqC] at h0 h1 h2
        unfold mayBe; omega
    | false =>
      refine .inr ⟨?_, by simp only [chkR, h0, h1, cond_true, cond_false]⟩
      simp [eqA, eqC] at h0 h1
      unfold mayBe; omega
  | false =>
    cases h1 : (n0 == 2) with
    | true =>
      cases h2 : (decide (n1 ≥ 0)) with
      | true =>
        cases h3 : (decide (n1 ≤ 3)) with
        | true =>
          cases h4 : (eqC n2 n3 n4 n5) with
          | true =>
            cases h5 : (decide (n6 ≥ 1)) with
            | true =>
              cases h6 : (decide (n6 ≤ 7)) with
              | true =>
                cases h7 : (decide (n7 ≥ 0)) with
                | true =>
                  cases h8 : (decide (n7 ≤ 255)) with
                  | true =>
                    cases h9 : (decide (n8 ≥ 0)) with
                    | true =>
                      cases h10 : (!decide (n8 ≤ 255)) with
                      | true =>
                        refine .inr ⟨?_, by simp only [chkR, h0, h1, h2, h3, h4, h5, h6, h7, h8, h9, h10, cond_true, cond_false]⟩
                        simp [eqA, eqC] at h0 h1 h2 h3 h4 h5 h6 h7 h8 h9 h10
                        unfold mayBe; omega
                      | false =>
                        refine .inl ⟨?_, by simp only [chkR, h0, h1, h2, h3, h4, h5, h6, h7, h8, h9, h10, cond_true, cond_false]⟩
                        simp [eqA, eqC] at h0 h1 h2 h3 h4 h5 h6 h7 h8 h9 h10
                        unfold mayBe; omega
                    | false =>
                      refine .inr ⟨?_, by simp only [chkR, h0, h1, h2, h3, h4, h5, h6, h7, h8, h9, cond_true, cond_false]⟩
                      simp [eqA, eqC] at h0 h1 h2 h3 h4 h5 h6 h7 h8 h9
                      unfold mayBe; omega
                  | false =>
                    refine .inr ⟨?_, by simp only [chkR, h0, h1, h2, h3, h4, h5, h6, h7, h8, cond_true, cond_false]⟩
                    simp [eqA, eqC] at h0 h1 h2 h3 h4 h5 h6 h7 h8
                    unfold mayBe; omega
                | false =>
                  refine .inr ⟨?_, by simp only [chkR, h0, h1, h2, h3, h4, h5, h6, h7, cond_true, cond_false]⟩
                  simp [eqA, eqC] at h0 h1 h2 h3 h4 h5 h6 h7
                  unfold mayBe; omega
              | false =>
                refine .inr ⟨?_, by simp only [chkR, h0, h1, h2, h3, h4, h5, h6, cond_true, cond_false]⟩
                simp [eqA, eqC] at h0 h1 h2 h3 h4 h5 h6
                unfold mayBe; omega
            | false =>
              refine .inr ⟨?_, by simp only [chkR, h0, h1, h2, h3, h4, h5, cond_true, cond_false]⟩
              simp [eqA, eqC] at h0 h1 h2 h3 h4 h5
              unfold mayBe; omega
          | false =>
            refine .inr ⟨?_, by simp only [chkR, h0, h1, h2, h3, h4, cond_true, cond_false]⟩
            simp [eqA, eqC] at h0 h1 h2 h3 h4
            unfold mayBe; omega
        | false =>
          refine .inr ⟨?_, by simp only [chkR, h0, h1, h2, h3, cond_true, cond_false]⟩
          simp [eqA, eqC] at h0 h1 h2 h3
          unfold mayBe; omega
      | false =>
        refine .inr ⟨?_, by simp only [chkR, h0, h1, h2, cond_true, cond_false]⟩
        simp [eqA, eqC] at h0 h1 h2
        unfold mayBe; omega
    | false =>
      refine .inr ⟨?_, by simp only [chkR, h0, h1, cond_true, cond_false]⟩
      simp [eqA, eqC] at h0 h1
      unfold mayBe; omega

theorem chk_same : chkR n0 n1 n2 n3 n4 n5 n6 n7 n8 = chk n0 n1 n2 n3 n4 n5 n6 n7 n8 := by
  rcases chk_may n0 n1 n2 n3 n4 n5 n6 n7 n8 with ⟨h1, h2⟩ | ⟨h1, h2⟩ <;> rcases chkR_may n0 n1 n2 n3 n4 n5 n6 n7 n8 with ⟨h3, h4⟩ | ⟨h3, h4⟩
  · rw [h2, h4]
  · exact absurd h1 h3
  · exact absurd h3 h1
  · rw [h2, h4]
end
end Go.Ws
