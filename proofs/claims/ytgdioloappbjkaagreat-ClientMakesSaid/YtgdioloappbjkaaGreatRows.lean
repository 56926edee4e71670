/-
  No cell of these rows narrows 'for every input' (looked for: loops, veiled, ifaces, maps, wideKeys, modest, calm, conditions, laid).
  DERIVED. THE GIVEN ROWS OF THIS SEAT. 9 by the template 'for every input the law returns true; each argument reads behind the call as it read before'; 0 by the template 'total and deterministic' (their statements: YtgdioloappbjkaaGreatTotals.lean).
  GIVEN WITH THE SEED: the statements are not yours to turn. If you find one false, say at which input.
  Laid BY PROGRAM, IN A SANDBOX (cutbox-rows.mjs): the forced cells as the released guide's own fill.sh prints them over the translation af7b33768ef52254… (all of the seat's roots in one cut). By AI agents, Wed Nov 11 2026. No macro, syntax, notation, axiom, sorry.
-/
import Derived.Test.YtgdioloappbjkaaGreatChecked
import GoSem.Claim
import GoSem.ClaimJoined
import GoSem.ClaimMapViews
import Derived.JoinedTies
import Derived.KernelRfl
namespace Go.Proofs.YtgdioloappbjkaaGreat
/- THE CELL 'sum', in the pinned program and in every row, IS THE sha256 OF THE DUMP (.gsa) THAT YtgdioloappbjkaaGreatProg.lean LOADS. Nothing in Lean hashes anything: it is a label: what it is worth is what the hold of that sum in a sandbox is worth. -/
noncomputable def Tryz.pinned : Pinned := { name := "ytgdioloappbjkaagreat", sum := "af7b33768ef52254775ac9be6e6b10395d5b83d36b06420163473afbf0485282", checked := Tryz.checked }
namespace Rows
def none {H : Type} : Left H := { results := [], args := [] }

/-- 'waystationlaw12.ClusterNil': WHATEVER THE INPUT: true; the input reads as it did. -/
def clusterNilSpec : ChangeSpec := { name := "clusterNil", fn := fun _ => fun
  | [d1, d2] => { results := [.lit (.bool true)], args := [d1, d2] }
  | _ => none }
def clusterNilRow : OpenClaim := { program := "ytgdioloappbjkaagreat", sum := "af7b33768ef52254775ac9be6e6b10395d5b83d36b06420163473afbf0485282", func := "waystation/waystationlaw12.ClusterNil", spec := "clusterNil", unfollowed := true, recurses := true, plainKeys := false, apart := false }
def ClusterNilSaid : Prop := clusterNilRow.holds Tryz.pinned (OpenSpec.ofChange clusterNilSpec)

/-- ITS FALSE NEIGHBOUR: 'it returns false'. Refute it at one input. -/
def clusterNilWrong : ChangeSpec := { name := "clusterNil", fn := fun _ => fun
  | [d1, d2] => { results := [.lit (.bool false)], args := [d1, d2] }
  | _ => none }
def ClusterNilWrongFalsely : Prop := clusterNilRow.holds Tryz.pinned (OpenSpec.ofChange clusterNilWrong)

/-- 'waystationlaw13.ClientMakes': WHATEVER THE INPUT: true; the input reads as it did. -/
def clientMakesSpec : ChangeSpec := { name := "clientMakes", fn := fun _ => fun
  | [d1, d2] => { results := [.lit (.bool true)], args := [d1, d2] }
  | _ => none }
def clientMakesRow : OpenClaim := { program := "ytgdioloappbjkaagreat", sum := "af7b33768ef52254775ac9be6e6b10395d5b83d36b06420163473afbf0485282", func := "waystation/waystationlaw13.ClientMakes", spec := "clientMakes", unfollowed := true, recurses := true, plainKeys := false, apart := false }
def ClientMakesSaid : Prop := clientMakesRow.holds Tryz.pinned (OpenSpec.ofChange clientMakesSpec)

/-- ITS FALSE NEIGHBOUR: 'it returns false'. Refute it at one input. -/
def clientMakesWrong : ChangeSpec := { name := "clientMakes", fn := fun _ => fun
  | [d1, d2] => { results := [.lit (.bool false)], args := [d1, d2] }
  | _ => none }
def ClientMakesWrongFalsely : Prop := clientMakesRow.holds Tryz.pinned (OpenSpec.ofChange clientMakesWrong)

/-- 'waystationlaw13.ClientNil': WHATEVER THE INPUT: true; the input reads as it did. -/
def clientNilSpec : ChangeSpec := { name := "clientNil", fn := fun _ => fun
  | [d] => { results := [.lit (.bool true)], args := [d] }
  | _ => none }
def clientNilRow : OpenClaim := { program := "ytgdioloappbjkaagreat", sum := "af7b33768ef52254775ac9be6e6b10395d5b83d36b06420163473afbf0485282", func := "waystation/waystationlaw13.ClientNil", spec := "clientNil", unfollowed := true, recurses := true, plainKeys := false, apart := false }
def ClientNilSaid : Prop := clientNilRow.holds Tryz.pinned (OpenSpec.ofChange clientNilSpec)

/-- ITS FALSE NEIGHBOUR: 'it returns false'. Refute it at one input. -/
def clientNilWrong : ChangeSpec := { name := "clientNil", fn := fun _ => fun
  | [d] => { results := [.lit (.bool false)], args := [d] }
  | _ => none }
def ClientNilWrongFalsely : Prop := clientNilRow.holds Tryz.pinned (OpenSpec.ofChange clientNilWrong)

/-- 'waystationlaw15.ScriptChecks': WHATEVER THE INPUT: true; the input reads as it did. -/
def scriptChecksSpec : ChangeSpec := { name := "scriptChecks", fn := fun _ => fun
  | [d] => { results := [.lit (.bool true)], args := [d] }
  | _ => none }
def scriptChecksRow : OpenClaim := { program := "ytgdioloappbjkaagreat", sum := "af7b33768ef52254775ac9be6e6b10395d5b83d36b06420163473afbf0485282", func := "waystation/waystationlaw15.ScriptChecks", spec := "scriptChecks", unfollowed := true, recurses := true, plainKeys := false, apart := false }
def ScriptChecksSaid : Prop := scriptChecksRow.holds Tryz.pinned (OpenSpec.ofChange scriptChecksSpec)

/-- ITS FALSE NEIGHBOUR: 'it returns false'. Refute it at one input. -/
def scriptChecksWrong : ChangeSpec := { name := "scriptChecks", fn := fun _ => fun
  | [d] => { results := [.lit (.bool false)], args := [d] }
  | _ => none }
def ScriptChecksWrongFalsely : Prop := scriptChecksRow.holds Tryz.pinned (OpenSpec.ofChange scriptChecksWrong)

/-- 'waystationlaw15.ScriptTells': WHATEVER THE INPUT: true; the input reads as it did. -/
def scriptTellsSpec : ChangeSpec := { name := "scriptTells", fn := fun _ => fun
  | [d] => { results := [.lit (.bool true)], args := [d] }
  | _ => none }
def scriptTellsRow : OpenClaim := { program := "ytgdioloappbjkaagreat", sum := "af7b33768ef52254775ac9be6e6b10395d5b83d36b06420163473afbf0485282", func := "waystation/waystationlaw15.ScriptTells", spec := "scriptTells", unfollowed := true, recurses := true, plainKeys := false, apart := false }
def ScriptTellsSaid : Prop := scriptTellsRow.holds Tryz.pinned (OpenSpec.ofChange scriptTellsSpec)

/-- ITS FALSE NEIGHBOUR: 'it returns false'. Refute it at one input. -/
def scriptTellsWrong : ChangeSpec := { name := "scriptTells", fn := fun _ => fun
  | [d] => { results := [.lit (.bool false)], args := [d] }
  | _ => none }
def ScriptTellsWrongFalsely : Prop := scriptTellsRow.holds Tryz.pinned (OpenSpec.ofChange scriptTellsWrong)

/-- 'waystationlaw15.ScriptReads': WHATEVER THE INPUT: true; the input reads as it did. -/
def scriptReadsSpec : ChangeSpec := { name := "scriptReads", fn := fun _ => fun
  | [d] => { results := [.lit (.bool true)], args := [d] }
  | _ => none }
def scriptReadsRow : OpenClaim := { program := "ytgdioloappbjkaagreat", sum := "af7b33768ef52254775ac9be6e6b10395d5b83d36b06420163473afbf0485282", func := "waystation/waystationlaw15.ScriptReads", spec := "scriptReads", unfollowed := true, recurses := true, plainKeys := false, apart := false }
def ScriptReadsSaid : Prop := scriptReadsRow.holds Tryz.pinned (OpenSpec.ofChange scriptReadsSpec)

/-- ITS FALSE NEIGHBOUR: 'it returns false'. Refute it at one input. -/
def scriptReadsWrong : ChangeSpec := { name := "scriptReads", fn := fun _ => fun
  | [d] => { results := [.lit (.bool false)], args := [d] }
  | _ => none }
def ScriptReadsWrongFalsely : Prop := scriptReadsRow.holds Tryz.pinned (OpenSpec.ofChange scriptReadsWrong)

/-- 'waystationlaw15.ScriptBack': WHATEVER THE INPUT: true; the input reads as it did. -/
def scriptBackSpec : ChangeSpec := { name := "scriptBack", fn := fun _ => fun
  | [d1, d2] => { results := [.lit (.bool true)], args := [d1, d2] }
  | _ => none }
def scriptBackRow : OpenClaim := { program := "ytgdioloappbjkaagreat", sum := "af7b33768ef52254775ac9be6e6b10395d5b83d36b06420163473afbf0485282", func := "waystation/waystationlaw15.ScriptBack", spec := "scriptBack", unfollowed := true, recurses := true, plainKeys := false, apart := false }
def ScriptBackSaid : Prop := scriptBackRow.holds Tryz.pinned (OpenSpec.ofChange scriptBackSpec)

/-- ITS FALSE NEIGHBOUR: 'it returns false'. Refute it at one input. -/
def scriptBackWrong : ChangeSpec := { name := "scriptBack", fn := fun _ => fun
  | [d1, d2] => { results := [.lit (.bool false)], args := [d1, d2] }
  | _ => none }
def ScriptBackWrongFalsely : Prop := scriptBackRow.holds Tryz.pinned (OpenSpec.ofChange scriptBackWrong)

/-- 'waystationlaw15.ScriptOne': WHATEVER THE INPUT: true; the input reads as it did. -/
def scriptOneSpec : ChangeSpec := { name := "scriptOne", fn := fun _ => fun
  | [d] => { results := [.lit (.bool true)], args := [d] }
  | _ => none }
def scriptOneRow : OpenClaim := { program := "ytgdioloappbjkaagreat", sum := "af7b33768ef52254775ac9be6e6b10395d5b83d36b06420163473afbf0485282", func := "waystation/waystationlaw15.ScriptOne", spec := "scriptOne", unfollowed := true, recurses := true, plainKeys := false, apart := false }
def ScriptOneSaid : Prop := scriptOneRow.holds Tryz.pinned (OpenSpec.ofChange scriptOneSpec)

/-- ITS FALSE NEIGHBOUR: 'it returns false'. Refute it at one input. -/
def scriptOneWrong : ChangeSpec := { name := "scriptOne", fn := fun _ => fun
  | [d] => { results := [.lit (.bool false)], args := [d] }
  | _ => none }
def ScriptOneWrongFalsely : Prop := scriptOneRow.holds Tryz.pinned (OpenSpec.ofChange scriptOneWrong)

/-- 'waystationlaw15.ScriptSame': WHATEVER THE INPUT: true; the input reads as it did. -/
def scriptSameSpec : ChangeSpec := { name := "scriptSame", fn := fun _ => fun
  | [d1, d2] => { results := [.lit (.bool true)], args := [d1, d2] }
  | _ => none }
def scriptSameRow : OpenClaim := { program := "ytgdioloappbjkaagreat", sum := "af7b33768ef52254775ac9be6e6b10395d5b83d36b06420163473afbf0485282", func := "waystation/waystationlaw15.ScriptSame", spec := "scriptSame", unfollowed := true, recurses := true, plainKeys := false, apart := false }
def ScriptSameSaid : Prop := scriptSameRow.holds Tryz.pinned (OpenSpec.ofChange scriptSameSpec)

/-- ITS FALSE NEIGHBOUR: 'it returns false'. Refute it at one input. -/
def scriptSameWrong : ChangeSpec := { name := "scriptSame", fn := fun _ => fun
  | [d1, d2] => { results := [.lit (.bool false)], args := [d1, d2] }
  | _ => none }
def ScriptSameWrongFalsely : Prop := scriptSameRow.holds Tryz.pinned (OpenSpec.ofChange scriptSameWrong)

/- THE SECOND FORM. 'bulk': how many values and letters a reading holds, each counted each time it is reached (what is shared counts as often as it is met; a slice's spare places count too). A statement '..UptoSaid' is the law's where the arguments, and the package variables that the reading takes, are together of bulk at most 1048576: NARROWER than '..Said'. Prove '..Said' where nothing that the law and all that it calls make is longer than what came in: it says more and counts as full. Else prove '..UptoSaid'. A law counts once. -/
mutual
def uptoBulk {H : Type} : DataW H → Nat
  | .lit (.string bytes) => bytes.length + 1
  | .lit _ => 1
  | .nil => 1
  | .ptr d => uptoBulk d + 1
  | .slice elems spare => uptoBulkAll elems + uptoBulkAll spare + 1
  | .agg parts => uptoBulkAll parts + 1
  | .iface _ d => uptoBulk d + 1
  | .map entries => uptoBulkEntries entries + 1
  | .held _ => 1
def uptoBulkAll {H : Type} : List (DataW H) → Nat
  | [] => 0
  | d :: r => uptoBulk d + uptoBulkAll r
def uptoBulkEntries {H : Type} : List (Lit × DataW H) → Nat
  | [] => 0
  | x :: r => uptoBulkEntry x + uptoBulkEntries r
def uptoBulkEntry {H : Type} : Lit × DataW H → Nat
  | (.string bytes, d) => bytes.length + uptoBulk d + 1
  | (_, d) => uptoBulk d + 1
 end
def uptoSmall : (H : Type) → List (DataW H) → Bool := fun _ ds => decide (uptoBulkAll ds ≤ 1048576)
def OpenSpec.upto (s : _root_.Go.ChangeSpec) : _root_.Go.OpenSpec := { _root_.Go.OpenSpec.ofChange s with cond := some uptoSmall }

/-- 'waystationlaw12.ClusterNil', WHERE WHAT IT READS IS OF BULK AT MOST 1048576: true; the input reads as it did. -/
def clusterNilUptoRow : OpenClaim := { program := "ytgdioloappbjkaagreat", sum := "af7b33768ef52254775ac9be6e6b10395d5b83d36b06420163473afbf0485282", func := "waystation/waystationlaw12.ClusterNil", spec := "clusterNil", unfollowed := true, recurses := true, plainKeys := false, apart := false, narrowed := true }
def ClusterNilUptoSaid : Prop := clusterNilUptoRow.holds Tryz.pinned (OpenSpec.upto clusterNilSpec)

/-- 'waystationlaw13.ClientMakes', WHERE WHAT IT READS IS OF BULK AT MOST 1048576: true; the input reads as it did. -/
def clientMakesUptoRow : OpenClaim := { program := "ytgdioloappbjkaagreat", sum := "af7b33768ef52254775ac9be6e6b10395d5b83d36b06420163473afbf0485282", func := "waystation/waystationlaw13.ClientMakes", spec := "clientMakes", unfollowed := true, recurses := true, plainKeys := false, apart := false, narrowed := true }
def ClientMakesUptoSaid : Prop := clientMakesUptoRow.holds Tryz.pinned (OpenSpec.upto clientMakesSpec)

/-- 'waystationlaw13.ClientNil', WHERE WHAT IT READS IS OF BULK AT MOST 1048576: true; the input reads as it did. -/
def clientNilUptoRow : OpenClaim := { program := "ytgdioloappbjkaagreat", sum := "af7b33768ef52254775ac9be6e6b10395d5b83d36b06420163473afbf0485282", func := "waystation/waystationlaw13.ClientNil", spec := "clientNil", unfollowed := true, recurses := true, plainKeys := false, apart := false, narrowed := true }
def ClientNilUptoSaid : Prop := clientNilUptoRow.holds Tryz.pinned (OpenSpec.upto clientNilSpec)

/-- 'waystationlaw15.ScriptChecks', WHERE WHAT IT READS IS OF BULK AT MOST 1048576: true; the input reads as it did. -/
def scriptChecksUptoRow : OpenClaim := { program := "ytgdioloappbjkaagreat", sum := "af7b33768ef52254775ac9be6e6b10395d5b83d36b06420163473afbf0485282", func := "waystation/waystationlaw15.ScriptChecks", spec := "scriptChecks", unfollowed := true, recurses := true, plainKeys := false, apart := false, narrowed := true }
def ScriptChecksUptoSaid : Prop := scriptChecksUptoRow.holds Tryz.pinned (OpenSpec.upto scriptChecksSpec)

/-- 'waystationlaw15.ScriptTells', WHERE WHAT IT READS IS OF BULK AT MOST 1048576: true; the input reads as it did. -/
def scriptTellsUptoRow : OpenClaim := { program := "ytgdioloappbjkaagreat", sum := "af7b33768ef52254775ac9be6e6b10395d5b83d36b06420163473afbf0485282", func := "waystation/waystationlaw15.ScriptTells", spec := "scriptTells", unfollowed := true, recurses := true, plainKeys := false, apart := false, narrowed := true }
def ScriptTellsUptoSaid : Prop := scriptTellsUptoRow.holds Tryz.pinned (OpenSpec.upto scriptTellsSpec)

/-- 'waystationlaw15.ScriptReads', WHERE WHAT IT READS IS OF BULK AT MOST 1048576: true; the input reads as it did. -/
def scriptReadsUptoRow : OpenClaim := { program := "ytgdioloappbjkaagreat", sum := "af7b33768ef52254775ac9be6e6b10395d5b83d36b06420163473afbf0485282", func := "waystation/waystationlaw15.ScriptReads", spec := "scriptReads", unfollowed := true, recurses := true, plainKeys := false, apart := false, narrowed := true }
def ScriptReadsUptoSaid : Prop := scriptReadsUptoRow.holds Tryz.pinned (OpenSpec.upto scriptReadsSpec)

/-- 'waystationlaw15.ScriptBack', WHERE WHAT IT READS IS OF BULK AT MOST 1048576: true; the input reads as it did. -/
def scriptBackUptoRow : OpenClaim := { program := "ytgdioloappbjkaagreat", sum := "af7b33768ef52254775ac9be6e6b10395d5b83d36b06420163473afbf0485282", func := "waystation/waystationlaw15.ScriptBack", spec := "scriptBack", unfollowed := true, recurses := true, plainKeys := false, apart := false, narrowed := true }
def ScriptBackUptoSaid : Prop := scriptBackUptoRow.holds Tryz.pinned (OpenSpec.upto scriptBackSpec)

/-- 'waystationlaw15.ScriptOne', WHERE WHAT IT READS IS OF BULK AT MOST 1048576: true; the input reads as it did. -/
def scriptOneUptoRow : OpenClaim := { program := "ytgdioloappbjkaagreat", sum := "af7b33768ef52254775ac9be6e6b10395d5b83d36b06420163473afbf0485282", func := "waystation/waystationlaw15.ScriptOne", spec := "scriptOne", unfollowed := true, recurses := true, plainKeys := false, apart := false, narrowed := true }
def ScriptOneUptoSaid : Prop := scriptOneUptoRow.holds Tryz.pinned (OpenSpec.upto scriptOneSpec)

/-- 'waystationlaw15.ScriptSame', WHERE WHAT IT READS IS OF BULK AT MOST 1048576: true; the input reads as it did. -/
def scriptSameUptoRow : OpenClaim := { program := "ytgdioloappbjkaagreat", sum := "af7b33768ef52254775ac9be6e6b10395d5b83d36b06420163473afbf0485282", func := "waystation/waystationlaw15.ScriptSame", spec := "scriptSame", unfollowed := true, recurses := true, plainKeys := false, apart := false, narrowed := true }
def ScriptSameUptoSaid : Prop := scriptSameUptoRow.holds Tryz.pinned (OpenSpec.upto scriptSameSpec)

end Rows
end Go.Proofs.YtgdioloappbjkaaGreat
