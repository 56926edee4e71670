/- What a rule may be, and what it makes of a value, here and in the document: by their questions. -/
import Derived.Test.YtgdioloappbjkaaGreatBase
import Derived.Test.YtgdioloappbjkaaGreatWsInts
set_option linter.unusedSectionVars false
set_option linter.unusedVariables false
set_option linter.unusedSimpArgs false
namespace Go.Ws
open Go.Proofs

/-- A value, and what must hold. -/
def valLeaf : Option (SV × Hp) → Option (Value × List (Bool × Bool))
  | some (sv, hp) => match plain sv with
    | some v => some (v, hp.conds)
    | none => none
  | none => none

theorem valLeaf_ok {x : Option (SV × Hp)} {v : Value} {l : List (Bool × Bool)} (h : valLeaf x = some (v, l)) (hl : ∀ y ∈ l, y.1 = y.2) : ∃ sv hp, x = some (sv, hp) ∧ plain sv = some v ∧ Holds hp := by
  unfold valLeaf at h
  split at h
  rotate_left
  · cases h
  split at h
  rotate_left
  · cases h
  rename_i sv hp _ v' hv
  simp only [Option.some.injEq, Prod.mk.injEq] at h
  obtain ⟨rfl, rfl⟩ := h
  exact ⟨sv, hp, rfl, hv, hl⟩

theorem vc {a b : Bool} {l : List (Bool × Bool)} (h : a = b) (hl : ∀ y ∈ l, y.1 = y.2) : ∀ y ∈ (a, b) :: l, y.1 = y.2 := fun y hy => by
  rcases List.mem_cons.1 hy with rfl | hy
  · exact h
  · exact hl y hy
theorem vn : ∀ y ∈ ([] : List (Bool × Bool)), y.1 = y.2 := fun y hy => by cases hy

/-- A call that yields a value, from a heap without named blocks. -/
theorem calls_val {P : Program} {call : CallR} (hc : CallOK P call) {f : FuncId} {args : List SV} {vs : List Value} {a : List Bool} {v : Value} {l : List (Bool × Bool)} (hd : dens noNames args = some vs) (h : valLeaf (call (.fn f) args ⟨.leaf, 0, a, []⟩) = some (v, l)) (hl : ∀ y ∈ l, y.1 = y.2)
    {F : HP} {w : World} (s : Sat w F) : Calls P f vs.toArray w fun e w' => e = .returned v ∧ Sat w' F := by
  obtain ⟨sv, hp, h, hv, ho⟩ := valLeaf_ok h hl
  refine ((hc.fn _ _ _ _ _ h).2 ho F noNames vs good_empty hd w (sat_leaf roF_none s)).mono ?_
  rintro e w' ⟨ι', vv, rfl, _, hd', s'⟩
  refine ⟨?_, s'.ent .dropr⟩
  have := plain_den (ι := ι') hv
  rw [hd'] at this
  rw [Option.some.inj this]

section
variable (r0 r1 r2 r3 r4 v : Int)
abbrev ruleS : SV := .agg [.si .i64 r0, .si .i64 r1, .si .i64 r2, .si .i64 r3, .si .i64 r4]
abbrev ruleV : Value := .agg #[.int .i64 r0, .int .i64 r1, .int .i64 r2, .int .i64 r3, .int .i64 r4]
abbrev w64 (n : Int) : Int := IntKind.wrap .i64 n

def mayQ : Bool := bif decide (r0 ≥ 0) then (bif decide (r0 < 4) then (bif decide (r1 ≥ 0) then (bif decide (r1 < 4) then (bif decide (r2 ≥ 0) then (bif decide (r2 < 4) then (bif r1 != r2 then (bif decide (r3 ≥ -65536) then (bif decide (r3 ≤ 65536) then (bif decide (r4 ≥ -65536) then (decide (r4 ≤ 65536)) else (false)) else (false)) else (false)) else (false)) else (false)) else (false)) else (false)) else (false)) else (false)) else (false)
theorem mayQ_0 : valLeaf (callK (.fn 27) [ruleS r0 r1 r2 r3 r4] ⟨.leaf, 0, [true, true, true, true, true, true, true, true, true, true], []⟩) = some (.bool (decide (r4 ≤ 65536)), [(decide (r4 ≥ -65536), true), (decide (r3 ≤ 65536), true), (decide (r3 ≥ -65536), true), (r1 != r2, true), (decide (r2 < 4), true), (decide (r2 ≥ 0), true), (decide (r1 < 4), true), (decide (r1 ≥ 0), true), (decide (r0 < 4), true), (decide (r0 ≥ 0), true)]) := by kernel_rfl
theorem mayQ_1 : valLeaf (callK (.fn 27) [ruleS r0 r1 r2 r3 r4] ⟨.leaf, 0, [true, true, true, true, true, true, true, true, true, false], []⟩) = some (.bool (false), [(decide (r4 ≥ -65536), false), (decide (r3 ≤ 65536), true), (decide (r3 ≥ -65536), true), (r1 != r2, true), (decide (r2 < 4), true), (decide (r2 ≥ 0), true), (decide (r1 < 4), true), (decide (r1 ≥ 0), true), (decide (r0 < 4), true), (decide (r0 ≥ 0), true)]) := by kernel_rfl
theorem mayQ_2 : valLeaf (callK (.fn 27) [ruleS r0 r1 r2 r3 r4] ⟨.leaf, 0, [true, true, true, true, true, true, true, true, false], []⟩) = some (.bool (false), [(decide (r3 ≤ 65536), false), (decide (r3 ≥ -65536), true), (r1 != r2, true), (decide (r2 < 4), true), (decide (r2 ≥ 0), true), (decide (r1 < 4), true), (decide (r1 ≥ 0), true), (decide (r0 < 4), true), (decide (r0 ≥ 0), true)]) := by kernel_rfl
theorem mayQ_3 : valLeaf (callK (.fn 27) [ruleS r0 r1 r2 r3 r4] ⟨.leaf, 0, [true, true, true, true, true, true, true, false], []⟩) = some (.bool (false), [(decide (r3 ≥ -65536), false), (r1 != r2, true), (decide (r2 < 4), true), (decide (r2 ≥ 0), true), (decide (r1 < 4), true), (decide (r1 ≥ 0), true), (decide (r0 < 4), true), (decide (r0 ≥ 0), true)]) := by kernel_rfl
theorem mayQ_4 : valLeaf (callK (.fn 27) [ruleS r0 r1 r2 r3 r4] ⟨.leaf, 0, [true, true, true, true, true, true, false], []⟩) = some (.bool (false), [(r1 != r2, false), (decide (r2 < 4), true), (decide (r2 ≥ 0), true), (decide (r1 < 4), true), (decide (r1 ≥ 0), true), (decide (r0 < 4), true), (decide (r0 ≥ 0), true)]) := by kernel_rfl
theorem mayQ_5 : valLeaf (callK (.fn 27) [ruleS r0 r1 r2 r3 r4] ⟨.leaf, 0, [true, true, true, true, true, false], []⟩) = some (.bool (false), [(decide (r2 < 4), false), (decide (r2 ≥ 0), true), (decide (r1 < 4), true), (decide (r1 ≥ 0), true), (decide (r0 < 4), true), (decide (r0 ≥ 0), true)]) := by kernel_rfl
theorem mayQ_6 : valLeaf (callK (.fn 27) [ruleS r0 r1 r2 r3 r4] ⟨.leaf, 0, [true, true, true, true, false], []⟩) = some (.bool (false), [(decide (r2 ≥ 0), false), (decide (r1 < 4), true), (decide (r1 ≥ 0), true), (decide (r0 < 4), true), (decide (r0 ≥ 0), true)]) := by kernel_rfl
theorem mayQ_7 : valLeaf (callK (.fn 27) [ruleS r0 r1 r2 r3 r4] ⟨.leaf, 0, [true, true, true, false], []⟩) = some (.bool (false), [(decide (r1 < 4), false), (decide (r1 ≥ 0), true), (decide (r0 < 4), true), (decide (r0 ≥ 0), true)]) := by kernel_rfl
theorem mayQ_8 : valLeaf (callK (.fn 27) [ruleS r0 r1 r2 r3 r4] ⟨.leaf, 0, [true, true, false], []⟩) = some (.bool (false), [(decide (r1 ≥ 0), false), (decide (r0 < 4), true), (decide (r0 ≥ 0), true)]) := by kernel_rfl
theorem mayQ_9 : valLeaf (callK (.fn 27) [ruleS r0 r1 r2 r3 r4] ⟨.leaf, 0, [true, false], []⟩) = some (.bool (false), [(decide (r0 < 4), false), (decide (r0 ≥ 0), true)]) := by kernel_rfl
theorem mayQ_10 : valLeaf (callK (.fn 27) [ruleS r0 r1 r2 r3 r4] ⟨.leaf, 0, [false], []⟩) = some (.bool (false), [(decide (r0 ≥ 0), false)]) := by kernel_rfl
theorem mayQ_ok {F : HP} {w : World} (s : Sat w F) : Calls Tryz.prog 27 #[ruleV r0 r1 r2 r3 r4] w fun e w' => e = .returned (.bool (mayQ r0 r1 r2 r3 r4)) ∧ Sat w' F := by
  have fin : ∀ {p : List Bool} {z : Bool} {l : List (Bool × Bool)}, valLeaf (callK (.fn 27) [ruleS r0 r1 r2 r3 r4] ⟨.leaf, 0, p, []⟩) = some (.bool z, l) → (∀ y ∈ l, y.1 = y.2) → mayQ r0 r1 r2 r3 r4 = z → Calls Tryz.prog 27 #[ruleV r0 r1 r2 r3 r4] w fun e w' => e = .returned (.bool (mayQ r0 r1 r2 r3 r4)) ∧ Sat w' F := by
    intro p z l h hl hv
    rw [hv]
    exact calls_val callK_ok rfl h hl s
  cases h0 : (decide (r0 ≥ 0)) with
  | true =>
    cases h1 : (decide (r0 < 4)) with
    | true =>
      cases h2 : (decide (r1 ≥ 0)) with
      | true =>
        cases h3 : (decide (r1 < 4)) with
        | true =>
          cases h4 : (decide (r2 ≥ 0)) with
          | true =>
            cases h5 : (decide (r2 < 4)) with
            | true =>
              cases h6 : (r1 != r2) with
              | true =>
                cases h7 : (decide (r3 ≥ -65536)) with
                | true =>
                  cases h8 : (decide (r3 ≤ 65536)) with
                  | true =>
                    cases h9 : (decide (r4 ≥ -65536)) with
                    | true =>
                      exact fin (mayQ_0 r0 r1 r2 r3 r4) (vc h9 (vc h8 (vc h7 (vc h6 (vc h5 (vc h4 (vc h3 (vc h2 (vc h1 (vc h0 (vn))))))))))) (by simp only [mayQ, h0, h1, h2, h3, h4, h5, h6, h7, h8, h9, cond_true, cond_false])
                    | false =>
                      exact fin (mayQ_1 r0 r1 r2 r3 r4) (vc h9 (vc h8 (vc h7 (vc h6 (vc h5 (vc h4 (vc h3 (vc h2 (vc h1 (vc h0 (vn))))))))))) (by simp only [mayQ, h0, h1, h2, h3, h4, h5, h6, h7, h8, h9, cond_true, cond_false])
                  | false =>
                    exact fin (mayQ_2 r0 r1 r2 r3 r4) (vc h8 (vc h7 (vc h6 (vc h5 (vc h4 (vc h3 (vc h2 (vc h1 (vc h0 (vn)))))))))) (by simp only [mayQ, h0, h1, h2, h3, h4, h5, h6, h7, h8, cond_true, cond_false])
                | false =>
                  exact fin (mayQ_3 r0 r1 r2 r3 r4) (vc h7 (vc h6 (vc h5 (vc h4 (vc h3 (vc h2 (vc h1 (vc h0 (vn))))))))) (by simp only [mayQ, h0, h1, h2, h3, h4, h5, h6, h7, cond_true, cond_false])
              | false =>
                exact fin (mayQ_4 r0 r1 r2 r3 r4) (vc h6 (vc h5 (vc h4 (vc h3 (vc h2 (vc h1 (vc h0 (vn)))))))) (by simp only [mayQ, h0, h1, h2, h3, h4, h5, h6, cond_true, cond_false])
            | false =>
              exact fin (mayQ_5 r0 r1 r2 r3 r4) (vc h5 (vc h4 (vc h3 (vc h2 (vc h1 (vc h0 (vn))))))) (by simp only [mayQ, h0, h1, h2, h3, h4, h5, cond_true, cond_false])
          | false =>
            exact fin (mayQ_6 r0 r1 r2 r3 r4) (vc h4 (vc h3 (vc h2 (vc h1 (vc h0 (vn)))))) (by simp only [mayQ, h0, h1, h2, h3, h4, cond_true, cond_false])
        | false =>
          exact fin (mayQ_7 r0 r1 r2 r3 r4) (vc h3 (vc h2 (vc h1 (vc h0 (vn))))) (by simp only [mayQ, h0, h1, h2, h3, cond_true, cond_false])
      | false =>
        exact fin (mayQ_8 r0 r1 r2 r3 r4) (vc h2 (vc h1 (vc h0 (vn)))) (by simp only [mayQ, h0, h1, h2, cond_true, cond_false])
    | false =>
      exact fin (mayQ_9 r0 r1 r2 r3 r4) (vc h1 (vc h0 (vn))) (by simp only [mayQ, h0, h1, cond_true, cond_false])
  | false =>
    exact fin (mayQ_10 r0 r1 r2 r3 r4) (vc h0 (vn)) (by simp only [mayQ, h0, cond_true, cond_false])

def mkD : Int := max (-2147483648) (min 2147483647 (w64 (w64 (v * r3) + r4)))
theorem mkD_0 : valLeaf (callK (.fn 28) [ruleS r0 r1 r2 r3 r4, .si .i64 v] ⟨.leaf, 0, [], []⟩) = some (.int .i64 (max (-2147483648) (min 2147483647 (w64 (w64 (v * r3) + r4)))), []) := by kernel_rfl
theorem mkD_ok {F : HP} {w : World} (s : Sat w F) : Calls Tryz.prog 28 #[ruleV r0 r1 r2 r3 r4, .int .i64 v] w fun e w' => e = .returned (.int .i64 (mkD r3 r4 v)) ∧ Sat w' F := by
  have fin : ∀ {p : List Bool} {z : Int} {l : List (Bool × Bool)}, valLeaf (callK (.fn 28) [ruleS r0 r1 r2 r3 r4, .si .i64 v] ⟨.leaf, 0, p, []⟩) = some (.int .i64 z, l) → (∀ y ∈ l, y.1 = y.2) → mkD r3 r4 v = z → Calls Tryz.prog 28 #[ruleV r0 r1 r2 r3 r4, .int .i64 v] w fun e w' => e = .returned (.int .i64 (mkD r3 r4 v)) ∧ Sat w' F := by
    intro p z l h hl hv
    rw [hv]
    exact calls_val callK_ok rfl h hl s
  exact fin (mkD_0 r0 r1 r2 r3 r4 v) (vn) (rfl)

def mkC : Int := bif decide (r0 ≥ 0) then (bif decide (r0 < 4) then (bif decide (r1 ≥ 0) then (bif decide (r1 < 4) then (bif decide (r2 ≥ 0) then (bif decide (r2 < 4) then (bif r1 != r2 then (bif decide (r3 ≥ -65536) then (bif decide (r3 ≤ 65536) then (bif decide (r4 ≥ -65536) then (bif !decide (r4 ≤ 65536) then (0) else (bif decide (v < -2147483648) then (0) else (bif decide (v > 2147483647) then (0) else (max (-2147483648) (min 2147483647 (w64 (w64 (v * r3) + r4))))))) else (0)) else (0)) else (0)) else (0)) else (0)) else (0)) else (0)) else (0)) else (0)) else (0)
theorem mkC_0 : valLeaf (callK (.fn 29) [ruleS r0 r1 r2 r3 r4, .si .i64 v] ⟨.leaf, 0, [true, true, true, true, true, true, true, true, true, true, true], []⟩) = some (.int .i64 (0), [(!decide (r4 ≤ 65536), true), (decide (r4 ≥ -65536), true), (decide (r3 ≤ 65536), true), (decide (r3 ≥ -65536), true), (r1 != r2, true), (decide (r2 < 4), true), (decide (r2 ≥ 0), true), (decide (r1 < 4), true), (decide (r1 ≥ 0), true), (decide (r0 < 4), true), (decide (r0 ≥ 0), true)]) := by kernel_rfl
theorem mkC_1 : valLeaf (callK (.fn 29) [ruleS r0 r1 r2 r3 r4, .si .i64 v] ⟨.leaf, 0, [true, true, true, true, true, true, true, true, true, true, false, true], []⟩) = some (.int .i64 (0), [(decide (v < -2147483648), true), (!decide (r4 ≤ 65536), false), (decide (r4 ≥ -65536), true), (decide (r3 ≤ 65536), true), (decide (r3 ≥ -65536), true), (r1 != r2, true), (decide (r2 < 4), true), (decide (r2 ≥ 0), true), (decide (r1 < 4), true), (decide (r1 ≥ 0), true), (decide (r0 < 4), true), (decide (r0 ≥ 0), true)]) := by kernel_rfl
theorem mkC_2 : valLeaf (callK (.fn 29) [ruleS r0 r1 r2 r3 r4, .si .i64 v] ⟨.leaf, 0, [true, true, true, true, true, true, true, true, true, true, false, false, true], []⟩) = some (.int .i64 (0), [(decide (v > 2147483647), true), (decide (v < -2147483648), false), (!decide (r4 ≤ 65536), false), (decide (r4 ≥ -65536), true), (decide (r3 ≤ 65536), true), (decide (r3 ≥ -65536), true), (r1 != r2, true), (decide (r2 < 4), true), (decide (r2 ≥ 0), true), (decide (r1 < 4), true), (decide (r1 ≥ 0), true), (decide (r0 < 4), true), (decide (r0 ≥ 0), true)]) := by kernel_rfl
theorem mkC_3 : valLeaf (callK (.fn 29) [ruleS r0 r1 r2 r3 r4, .si .i64 v] ⟨.leaf, 0, [true, true, true, true, true, true, true, true, true, true, false, false, false], []⟩) = some (.int .i64 (max (-2147483648) (min 2147483647 (w64 (w64 (v * r3) + r4)))), [(decide (v > 2147483647), false), (decide (v < -2147483648), false), (!decide (r4 ≤ 65536), false), (decide (r4 ≥ -65536), true), (decide (r3 ≤ 65536), true), (decide (r3 ≥ -65536), true), (r1 != r2, true), (decide (r2 < 4), true), (decide (r2 ≥ 0), true), (decide (r1 < 4), true), (decide (r1 ≥ 0), true), (decide (r0 < 4), true), (decide (r0 ≥ 0), true)]) := by kernel_rfl
theorem mkC_4 : valLeaf (callK (.fn 29) [ruleS r0 r1 r2 r3 r4, .si .i64 v] ⟨.leaf, 0, [true, true, true, true, true, true, true, true, true, false], []⟩) = some (.int .i64 (0), [(decide (r4 ≥ -65536), false), (decide (r3 ≤ 65536), true), (decide (r3 ≥ -65536), true), (r1 != r2, true), (decide (r2 < 4), true), (decide (r2 ≥ 0), true), (decide (r1 < 4), true), (decide (r1 ≥ 0), true), (decide (r0 < 4), true), (decide (r0 ≥ 0), true)]) := by kernel_rfl
theorem mkC_5 : valLeaf (callK (.fn 29) [ruleS r0 r1 r2 r3 r4, .si .i64 v] ⟨.leaf, 0, [true, true, true, true, true, true, true, true, false], []⟩) = some (.int .i64 (0), [(decide (r3 ≤ 65536), false), (decide (r3 ≥ -65536), true), (r1 != r2, true), (decide (r2 < 4), true), (decide (r2 ≥ 0), true), (decide (r1 < 4), true), (decide (r1 ≥ 0), true), (decide (r0 < 4), true), (decide (r0 ≥ 0), true)]) := by kernel_rfl
theorem mkC_6 : valLeaf (callK (.fn 29) [ruleS r0 r1 r2 r3 r4, .si .i64 v] ⟨.leaf, 0, [true, true, true, true, true, true, true, false], []⟩) = some (.int .i64 (0), [(decide (r3 ≥ -65536), false), (r1 != r2, true), (decide (r2 < 4), true), (decide (r2 ≥ 0), true), (decide (r1 < 4), true), (decide (r1 ≥ 0), true), (decide (r0 < 4), true), (decide (r0 ≥ 0), true)]) := by kernel_rfl
theorem mkC_7 : valLeaf (callK (.fn 29) [ruleS r0 r1 r2 r3 r4, .si .i64 v] ⟨.leaf, 0, [true, true, true, true, true, true, false], []⟩) = some (.int .i64 (0), [(r1 != r2, false), (decide (r2 < 4), true), (decide (r2 ≥ 0), true), (decide (r1 < 4), true), (decide (r1 ≥ 0), true), (decide (r0 < 4), true), (decide (r0 ≥ 0), true)]) := by kernel_rfl
theorem mkC_8 : valLeaf (callK (.fn 29) [ruleS r0 r1 r2 r3 r4, .si .i64 v] ⟨.leaf, 0, [true, true, true, true, true, false], []⟩) = some (.int .i64 (0), [(decide (r2 < 4), false), (decide (r2 ≥ 0), true), (decide (r1 < 4), true), (decide (r1 ≥ 0), true), (decide (r0 < 4), true), (decide (r0 ≥ 0), true)]) := by kernel_rfl
theorem mkC_9 : valLeaf (callK (.fn 29) [ruleS r0 r1 r2 r3 r4, .si .i64 v] ⟨.leaf, 0, [true, true, true, true, false], []⟩) = some (.int .i64 (0), [(decide (r2 ≥ 0), false), (decide (r1 < 4), true), (decide (r1 ≥ 0), true), (decide (r0 < 4), true), (decide (r0 ≥ 0), true)]) := by kernel_rfl
theorem mkC_10 : valLeaf (callK (.fn 29) [ruleS r0 r1 r2 r3 r4, .si .i64 v] ⟨.leaf, 0, [true, true, true, false], []⟩) = some (.int .i64 (0), [(decide (r1 < 4), false), (decide (r1 ≥ 0), true), (decide (r0 < 4), true), (decide (r0 ≥ 0), true)]) := by kernel_rfl
theorem mkC_11 : valLeaf (callK (.fn 29) [ruleS r0 r1 r2 r3 r4, .si .i64 v] ⟨.leaf, 0, [true, true, false], []⟩) = some (.int .i64 (0), [(decide (r1 ≥ 0), false), (decide (r0 < 4), true), (decide (r0 ≥ 0), true)]) := by kernel_rfl
theorem mkC_12 : valLeaf (callK (.fn 29) [ruleS r0 r1 r2 r3 r4, .si .i64 v] ⟨.leaf, 0, [true, false], []⟩) = some (.int .i64 (0), [(decide (r0 < 4), false), (decide (r0 ≥ 0), true)]) := by kernel_rfl
theorem mkC_13 : valLeaf (callK (.fn 29) [ruleS r0 r1 r2 r3 r4, .si .i64 v] ⟨.leaf, 0, [false], []⟩) = some (.int .i64 (0), [(decide (r0 ≥ 0), false)]) := by kernel_rfl
theorem mkC_ok {F : HP} {w : World} (s : Sat w F) : Calls Tryz.prog 29 #[ruleV r0 r1 r2 r3 r4, .int .i64 v] w fun e w' => e = .returned (.int .i64 (mkC r0 r1 r2 r3 r4 v)) ∧ Sat w' F := by
  have fin : ∀ {p : List Bool} {z : Int} {l : List (Bool × Bool)}, valLeaf (callK (.fn 29) [ruleS r0 r1 r2 r3 r4, .si .i64 v] ⟨.leaf, 0, p, []⟩) = some (.int .i64 z, l) → (∀ y ∈ l, y.1 = y.2) → mkC r0 r1 r2 r3 r4 v = z → Calls Tryz.prog 29 #[ruleV r0 r1 r2 r3 r4, .int .i64 v] w fun e w' => e = .returned (.int .i64 (mkC r0 r1 r2 r3 r4 v)) ∧ Sat w' F := by
    intro p z l h hl hv
    rw [hv]
    exact calls_val callK_ok rfl h hl s
  cases h0 : (decide (r0 ≥ 0)) with
  | true =>
    cases h1 : (decide (r0 < 4)) with
    | true =>
      cases h2 : (decide (r1 ≥ 0)) with
      | true =>
        cases h3 : (decide (r1 < 4)) with
        | true =>
          cases h4 : (decide (r2 ≥ 0)) with
          | true =>
            cases h5 : (decide (r2 < 4)) with
            | true =>
              cases h6 : (r1 != r2) with
              | true =>
                cases h7 : (decide (r3 ≥ -65536)) with
                | true =>
                  cases h8 : (decide (r3 ≤ 65536)) with
                  | true =>
                    cases h9 : (decide (r4 ≥ -65536)) with
                    | true =>
                      cases h10 : (!decide (r4 ≤ 65536)) with
                      | true =>
                        exact fin (mkC_0 r0 r1 r2 r3 r4 v) (vc h10 (vc h9 (vc h8 (vc h7 (vc h6 (vc h5 (vc h4 (vc h3 (vc h2 (vc h1 (vc h0 (vn)))))))))))) (by simp only [mkC, h0, h1, h2, h3, h4, h5, h6, h7, h8, h9, h10, cond_true, cond_false])
                      | false =>
                        cases h11 : (decide (v < -2147483648)) with
                        | true =>
                          exact fin (mkC_1 r0 r1 r2 r3 r4 v) (vc h11 (vc h10 (vc h9 (vc h8 (vc h7 (vc h6 (vc h5 (vc h4 (vc h3 (vc h2 (vc h1 (vc h0 (vn))))))))))))) (by simp only [mkC, h0, h1, h2, h3, h4, h5, h6, h7, h8, h9, h10, h11, cond_true, cond_false])
                        | false =>
                          cases h12 : (decide (v > 2147483647)) with
                          | true =>
                            exact fin (mkC_2 r0 r1 r2 r3 r4 v) (vc h12 (vc h11 (vc h10 (vc h9 (vc h8 (vc h7 (vc h6 (vc h5 (vc h4 (vc h3 (vc h2 (vc h1 (vc h0 (vn)))))))))))))) (by simp only [mkC, h0, h1, h2, h3, h4, h5, h6, h7, h8, h9, h10, h11, h12, cond_true, cond_false])
                          | false =>
                            exact fin (mkC_3 r0 r1 r2 r3 r4 v) (vc h12 (vc h11 (vc h10 (vc h9 (vc h8 (vc h7 (vc h6 (vc h5 (vc h4 (vc h3 (vc h2 (vc h1 (vc h0 (vn)))))))))))))) (by simp only [mkC, h0, h1, h2, h3, h4, h5, h6, h7, h8, h9, h10, h11, h12, cond_true, cond_false])
                    | false =>
                      exact fin (mkC_4 r0 r1 r2 r3 r4 v) (vc h9 (vc h8 (vc h7 (vc h6 (vc h5 (vc h4 (vc h3 (vc h2 (vc h1 (vc h0 (vn))))))))))) (by simp only [mkC, h0, h1, h2, h3, h4, h5, h6, h7, h8, h9, cond_true, cond_false])
                  | false =>
                    exact fin (mkC_5 r0 r1 r2 r3 r4 v) (vc h8 (vc h7 (vc h6 (vc h5 (vc h4 (vc h3 (vc h2 (vc h1 (vc h0 (vn)))))))))) (by simp only [mkC, h0, h1, h2, h3, h4, h5, h6, h7, h8, cond_true, cond_false])
                | false =>
                  exact fin (mkC_6 r0 r1 r2 r3 r4 v) (vc h7 (vc h6 (vc h5 (vc h4 (vc h3 (vc h2 (vc h1 (vc h0 (vn))))))))) (by simp only [mkC, h0, h1, h2, h3, h4, h5, h6, h7, cond_true, cond_false])
              | false =>
                exact fin (mkC_7 r0 r1 r2 r3 r4 v) (vc h6 (vc h5 (vc h4 (vc h3 (vc h2 (vc h1 (vc h0 (vn)))))))) (by simp only [mkC, h0, h1, h2, h3, h4, h5, h6, cond_true, cond_false])
            | false =>
              exact fin (mkC_8 r0 r1 r2 r3 r4 v) (vc h5 (vc h4 (vc h3 (vc h2 (vc h1 (vc h0 (vn))))))) (by simp only [mkC, h0, h1, h2, h3, h4, h5, cond_true, cond_false])
          | false =>
            exact fin (mkC_9 r0 r1 r2 r3 r4 v) (vc h4 (vc h3 (vc h2 (vc h1 (vc h0 (vn)))))) (by simp only [mkC, h0, h1, h2, h3, h4, cond_true, cond_false])
        | false =>
          exact fin (mkC_10 r0 r1 r2 r3 r4 v) (vc h3 (vc h2 (vc h1 (vc h0 (vn))))) (by simp only [mkC, h0, h1, h2, h3, cond_true, cond_false])
      | false =>
        exact fin (mkC_11 r0 r1 r2 r3 r4 v) (vc h2 (vc h1 (vc h0 (vn)))) (by simp only [mkC, h0, h1, h2, cond_true, cond_false])
    | false =>
      exact fin (mkC_12 r0 r1 r2 r3 r4 v) (vc h1 (vc h0 (vn))) (by simp only [mkC, h0, h1, cond_true, cond_false])
  | false =>
    exact fin (mkC_13 r0 r1 r2 r3 r4 v) (vc h0 (vn)) (by simp only [mkC, h0, cond_true, cond_false])

end
end Go.Ws
