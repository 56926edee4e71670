/- Arguments that are arrays or structs of numbers alone: their numbers, within their bounds. -/
import Derived.Test.YtgdioloappbjkaaGreatWsLaw
import Derived.ProofKit
set_option linter.unusedSectionVars false
set_option linter.unusedVariables false
set_option linter.unusedSimpArgs false
namespace Go.Ws
variable [A : Arrs]

/-- All of its cells are numbers of these kinds. -/
def intRow (P : Program) (T : TypeId) (ks : List IntKind) : Bool :=
  (match P.underlying T with
    | some (.struct _) | some (.array _ _) => true
    | _ => false) &&
  (match P.cellTypes P.depth T with
    | some ts => Nat.beq (P.cellsOf T) ts.length && Nat.blt 0 ts.length && decide (ts.map (fun u => match P.underlying u with
      | some (.int k) => some k
      | _ => none) = ks.map some)
    | none => false)

def intsOf : List IntKind → List Int → List Value
  | k :: ks, n :: ns => .int k n :: intsOf ks ns
  | _, _ => []

/-- Each within its bounds. -/
def within : List IntKind → List Int → Prop
  | k :: ks, n :: ns => k.has n ∧ within ks ns
  | [], [] => True
  | _, _ => False

theorem cell_int {P : Program} {W : World} {base : Nat} {u : TypeId} {k : IntKind} {v : Value} (hu : P.underlying u = some (.int k)) (h : Cell.okWide P W .any base u v) : ∃ n, v = .int k n ∧ k.has n := by
  simp only [Cell.okWide, hu] at h
  cases v <;> simp [Cell.ok, hu] at h
  obtain ⟨rfl, h⟩ := h
  exact ⟨_, rfl, h⟩

theorem ints_list {P : Program} {W : World} {base : Nat} : ∀ {ts : List TypeId} {ks : List IntKind} {cs : List Value}, cs.length = ts.length → ts.map (fun u => match P.underlying u with
      | some (.int k) => some k
      | _ => none) = ks.map some → (∀ (i : Nat) (u : TypeId) (v : Value), ts[i]? = some u → cs[i]? = some v → Cell.okWide P W .any base u v) → ∃ ns, cs = intsOf ks ns ∧ within ks ns
  | [], ks, cs, hl, hk, _ => by
    cases ks with
    | nil =>
      cases cs with
      | nil => exact ⟨[], rfl, trivial⟩
      | cons => simp at hl
    | cons => simp at hk
  | u :: ts, [], cs, hl, hk, _ => by simp at hk
  | u :: ts, k :: ks, [], hl, hk, _ => by simp at hl
  | u :: ts, k :: ks, c :: cs, hl, hk, h => by
    simp only [List.map_cons, List.cons.injEq] at hk
    obtain ⟨hk1, hk2⟩ := hk
    have hu : P.underlying u = some (.int k) := by
      split at hk1
      · rename_i k' hu; simp at hk1; subst hk1; exact hu
      · cases hk1
    obtain ⟨n, rfl, hn⟩ := cell_int hu (h 0 u c rfl rfl)
    obtain ⟨ns, rfl, hw⟩ := ints_list (by simpa using hl) hk2 (fun i u v h1 h2 => h (i + 1) u v (by simpa using h1) (by simpa using h2))
    exact ⟨n :: ns, rfl, hn, hw⟩

theorem int_row {P : Program} {W : World} {base : Nat} {T : TypeId} {ks : List IntKind} {v : Value} (hr : intRow P T ks = true) (h : Value.okWide P W .any base T v) : ∃ ns, v = .agg (intsOf ks ns).toArray ∧ within ks ns := by
  simp only [intRow, Bool.and_eq_true] at hr
  obtain ⟨h1, h2⟩ := hr
  have hv : ∃ cs, v = .agg cs ∧ cs.size = P.cellsOf T ∧ Row.okWide P W .any base T cs := by
    unfold Value.okWide at h
    split at h1
    · rename_i hu; rw [hu] at h; exact h
    · rename_i hu; rw [hu] at h; exact h
    · cases h1
  obtain ⟨cs, rfl, hsz, ts, hts, _, hcell⟩ := hv
  rw [hts] at h2
  simp only [Bool.and_eq_true, decide_eq_true_eq] at h2
  obtain ⟨⟨h3, h4⟩, h5⟩ := h2
  have h3 := Nat.eq_of_beq_eq_true h3
  obtain ⟨ns, h6, h7⟩ := ints_list (cs := cs.toList) (by rw [← h3, ← hsz]; simp) h5 (fun i u v hi hv => by
    obtain ⟨u', hu', hok⟩ := hcell i v (by simpa using hv)
    have hlt : i < ts.length := (List.getElem?_eq_some_iff.1 hi).1
    rw [Nat.mod_eq_of_lt hlt, hi] at hu'
    cases hu'
    exact hok)
  exact ⟨ns, by rw [← h6], h7⟩

end Go.Ws
