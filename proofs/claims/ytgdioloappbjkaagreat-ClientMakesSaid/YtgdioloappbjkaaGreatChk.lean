/- The plans' check, the functions' names; what is deferred is quiet. -/
import Derived.Test.YtgdioloappbjkaaGreatKnown
set_option linter.unusedSectionVars false
set_option linter.unusedVariables false
set_option linter.unusedSimpArgs false
namespace Go.Ws
open Go.Proofs

def okAt (P : Program) (plans : FuncId → Plans) (f : FuncId) : Bool := match P.funcs[f]? with
  | some fn => !(fn.name == "runtime.NumGoroutine") && (match fn.body with
    | some c => codeOK (plans f) c
    | none => true)
  | none => true

theorem ok0 : (List.range' 0 110).all (okAt Tryz.prog plansOf) = true := by kernel_rfl
theorem ok1 : (List.range' 110 110).all (okAt Tryz.prog plansOf) = true := by kernel_rfl
theorem ok2 : (List.range' 220 110).all (okAt Tryz.prog plansOf) = true := by kernel_rfl
theorem okSize : Nat.ble Tryz.prog.funcs.size 330 = true := by kernel_rfl
theorem mixed : Tryz.prog.follows .mixedOrders = true := by kernel_rfl

theorem okAll (f : FuncId) (fn : Func) (h : Tryz.prog.funcs[f]? = some fn) : okAt Tryz.prog plansOf f = true := by
  have hlt := (Array.getElem?_eq_some_iff.1 h).1
  have hs := Nat.le_of_ble_eq_true okSize
  rcases Nat.lt_or_ge f 110 with h1 | h1
  · exact List.all_eq_true.1 ok0 f (List.mem_range'_1.2 ⟨by omega, by omega⟩)
  · rcases Nat.lt_or_ge f 220 with h2 | h2
    · exact List.all_eq_true.1 ok1 f (List.mem_range'_1.2 ⟨by omega, by omega⟩)
    · exact List.all_eq_true.1 ok2 f (List.mem_range'_1.2 ⟨by omega, by omega⟩)

theorem nameOK (f : FuncId) (fn : Func) (h : Tryz.prog.funcs[f]? = some fn) : (fn.name == "runtime.NumGoroutine") = false := by
  have := okAll f fn h
  simp only [okAt, h, Bool.and_eq_true, Bool.not_eq_true'] at this
  exact this.1

theorem plansOK (f : FuncId) (fn : Func) (c : Code) (h : Tryz.prog.funcs[f]? = some fn) (hb : fn.body = some c) : codeOK (plansOf f) c = true := by
  have := okAll f fn h
  simp only [okAt, h, hb, Bool.and_eq_true] at this
  exact this.2
end Go.Ws
