/- The rounds of ClientMakes' loop, by reckoning. -/
import Derived.Test.YtgdioloappbjkaaGreatMakes13
set_option linter.unusedSectionVars false
set_option linter.unusedVariables false
set_option linter.unusedSimpArgs false
namespace Go.Ws
open Go.Proofs Go.RowKit

def sqA : Code → Code
  | .seq a _ => a
  | c => c
def sqB : Code → Code
  | .seq _ b => b
  | c => c
def inBlk : Code → Code
  | .block _ c => c
  | c => c
def inLoop : Code → Code
  | .loop c => c
  | c => c

noncomputable abbrev m4 : Code := Tryz.f4.body.getD .skip
noncomputable abbrev m4a : Code := sqA m4
noncomputable abbrev m4b : Code := sqA (sqB m4)
noncomputable abbrev m4c : Code := sqA (sqA (sqB (sqB m4)))
noncomputable abbrev m4l : Code := inLoop (inBlk (sqB (sqA (sqB (sqB m4)))))
noncomputable abbrev m4t : Code := sqB (sqB (sqB m4))

theorem m4_body : Tryz.f4.body = some (.seq m4a (.seq m4b (.seq (.seq m4c (.block 0 (.loop m4l))) m4t))) := by kernel_rfl

/-- One array. -/
abbrev arr1 (D : ArrD) : Arrs := ⟨fun id => bif Nat.beq id 0 then some D else none⟩

section
variable (bl off n cp : Nat) (ob : Obj) (x : Nat → Int) (okp : ∃ cs T z, ob = .cells cs T z ∧ ∀ (i j : Nat) (k : IntKind), i < n → [IntKind.i64][j]? = some k → cs[off + i * [IntKind.i64].length + j]? = some (.int k ((fun (i _ : Nat) => x i) i j)))
variable (r0 r1 r2 r3 r4 : Int) (i : Nat)

abbrev list1 : ArrD := ⟨bl, off, ob, [.i64], n, cp, fun i _ => x i, okp⟩

noncomputable abbrev run4 (c : Code) (st : St) : Option (Ex × St) := @codeJ (arr1 (list1 bl off n cp ob x okp)) Tryz.prog (@callM (arr1 (list1 bl off n cp ob x okp))) 48 plansOf 4 30 0 c st

abbrev S4 (i : Nat) : LSt := ⟨[(1, .asl 0), (2, .ptr 0 0), (4, .v (.bool false)), (5, .si .i64 i)], [(0, .cells 69 [.si .i64 r0, .si .i64 r1, .si .i64 r2, .si .i64 r3, .si .i64 r4])], 1⟩

abbrev inB (n i : Nat) : Bool := decide (0 ≤ (i : Int) ∧ (i : Int) < n)
abbrev xi (x : Nat → Int) (i : Nat) : Int := x (i : Int).toNat

theorem round_exit : viewL [] [] (run4 bl off n cp ob x okp m4l ((S4 r0 r1 r2 r3 r4 i).st [false])) = some (.exit 0, [], [], [(decide ((i : Int) < n), false)], true) := by kernel_rfl
theorem round_all : viewL [1, 2, 4, 5] [0] (run4 bl off n cp ob x okp m4l ((S4 r0 r1 r2 r3 r4 i).st [true, true, true, true, false])) =
    some (.normal, [some (.asl 0), some (.ptr 0 0), some (.v (.bool false)), some (.si .i64 (w64 (i + 1)))], [some (.cells 69 [.si .i64 r0, .si .i64 r1, .si .i64 r2, .si .i64 r3, .si .i64 r4])],
      [(mkC r0 r1 r2 r3 r4 (xi x i) != mkD r3 r4 (xi x i), false), (inB n i, true), (inB n i, true), (decide (xi x i ≤ 2147483647), true), (inB n i, true), (decide (xi x i ≥ -2147483648), true), (inB n i, true), (mayQ r0 r1 r2 r3 r4, true), (decide ((i : Int) < n), true)], true) := by kernel_rfl
theorem round_high : viewL [1, 2, 4, 5] [0] (run4 bl off n cp ob x okp m4l ((S4 r0 r1 r2 r3 r4 i).st [true, true, true, false, false])) =
    some (.normal, [some (.asl 0), some (.ptr 0 0), some (.v (.bool false)), some (.si .i64 (w64 (i + 1)))], [some (.cells 69 [.si .i64 r0, .si .i64 r1, .si .i64 r2, .si .i64 r3, .si .i64 r4])],
      [(mkC r0 r1 r2 r3 r4 (xi x i) != 0, false), (inB n i, true), (decide (xi x i ≤ 2147483647), false), (inB n i, true), (decide (xi x i ≥ -2147483648), true), (inB n i, true), (mayQ r0 r1 r2 r3 r4, true), (decide ((i : Int) < n), true)], true) := by kernel_rfl
theorem round_low : viewL [1, 2, 4, 5] [0] (run4 bl off n cp ob x okp m4l ((S4 r0 r1 r2 r3 r4 i).st [true, true, false, false])) =
    some (.normal, [some (.asl 0), some (.ptr 0 0), some (.v (.bool false)), some (.si .i64 (w64 (i + 1)))], [some (.cells 69 [.si .i64 r0, .si .i64 r1, .si .i64 r2, .si .i64 r3, .si .i64 r4])],
      [(mkC r0 r1 r2 r3 r4 (xi x i) != 0, false), (inB n i, true), (decide (xi x i ≥ -2147483648), false), (inB n i, true), (mayQ r0 r1 r2 r3 r4, true), (decide ((i : Int) < n), true)], true) := by kernel_rfl
theorem round_not : viewL [1, 2, 4, 5] [0] (run4 bl off n cp ob x okp m4l ((S4 r0 r1 r2 r3 r4 i).st [true, false, false])) =
    some (.normal, [some (.asl 0), some (.ptr 0 0), some (.v (.bool false)), some (.si .i64 (w64 (i + 1)))], [some (.cells 69 [.si .i64 r0, .si .i64 r1, .si .i64 r2, .si .i64 r3, .si .i64 r4])],
      [(mkC r0 r1 r2 r3 r4 (xi x i) != 0, false), (inB n i, true), (mayQ r0 r1 r2 r3 r4, false), (decide ((i : Int) < n), true)], true) := by kernel_rfl
end
end Go.Ws
