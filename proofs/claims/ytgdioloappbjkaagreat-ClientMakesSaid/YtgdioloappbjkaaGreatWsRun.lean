/- A run over named blocks. -/
import Derived.Test.YtgdioloappbjkaaGreatWsSv
set_option linter.unusedSectionVars false
set_option linter.unusedVariables false
set_option linter.unusedSimpArgs false
namespace Go.Ws
variable [A : Arrs]

/-- How a text ends. -/
inductive Ex where
  | normal
  | exit (id : Nat)
  | goto (l : Nat)
  | ret

def Ex.code : Ex → Option Code
  | .normal => none
  | .exit i => some (.exit i)
  | .goto l => some (.goto l)
  | .ret => some .ret

/-- Who is called. -/
inductive Callee where
  | fn (f : FuncId)
  | yld (b : Nat)

/-- What a call comes to. -/
abbrev CallR := Callee → List SV → Hp → Option (SV × Hp)

def St.put (st : St) (d : Nat) (v : SV) : St := { st with regs := putS st.regs d v }

def Hp.set (h : Hp) (b : Nat) (c : Ch) : Hp := { h with t := h.t.set deep b c }
def Hp.add (h : Hp) (c : Ch) : Hp := { h with t := h.t.set deep h.next c, next := h.next + 1 }

def setCs : Ch → List SV → Ch
  | .cells T _, cs => .cells T cs
  | .more T sz _, cs => .more T sz cs
  | c, _ => c

def mapPut (kd : IntKind) (n : Int) (v : SV) (clock : Nat) : List (SV × SV × Nat) → Option (List (SV × SV × Nat) × Nat)
  | [] => some ([(.v (.int kd n), v, clock)], clock + 1)
  | (.v (.int k m), u, b) :: l => bif decide (k = kd) then
      (bif decide (n = m) then some ((.v (.int k m), v, b) :: l, clock)
      else match mapPut kd n v clock l with
        | some (l', c) => some ((.v (.int k m), u, b) :: l', c)
        | none => none) else none
  | _ :: _ => none

/-- The cells of a slice, from the heap. -/
def sliceCells (h : Hp) (k : Nat) : SV → Option (Nat × List SV)
  | .v (.slice none 0 0) | .se _ _ _ _ => some (0, [])
  | .sl b o len _ => match h.t.get b with
    | some ch => match ch.cs? with
      | some cs => match takeS (len * k) (dropS o cs) with
        | some l => some (len, l)
        | none => none
      | none => none
    | none => none
  | _ => none

/-- Where an append goes: in place, anew, or it is not told (some none). -/
def roomS (n m o k : Nat) : Cp → Ch → Option (Option Bool)
  | .known cp, _ => some (some (Nat.ble (n + m) cp))
  | .left r, .more _ sz cs =>
    bif Nat.beq sz k then
      bif Nat.ble ((n + m + r) * sz) cs.length then some (some true)
      else bif Nat.beq o 0 && Nat.beq (n * sz) cs.length && Nat.beq r 0 then some none else none
    else none
  | .left _, _ => none

def overB (n by_ : Nat) : Bool := Nat.ble (n * by_) 140737488355328

def Hp.ok (h : Hp) : Bool := Nat.blt h.next 1000000000000

/-- What is appended to a slice that is there. -/
def appendAt (h : Hp) (e k by_ : Nat) (b o n : Nat) (c : Cp) (m : Nat) (new : List SV) : Option (SV × Hp) :=
  match h.t.get b with
  | some ch => match ch.cs?, roomS n m o k c ch with
    | some cs, some (some true) => match spliceS cs (o + n * k) new with
      | some cs' => some (.sl b o (n + m) c, h.set b (setCs ch cs'))
      | none => none
    | some cs, some (some false) => match takeS (n * k) (dropS o cs) with
      | some old => bif overB (n + m) by_ then some (.sl h.next 0 (n + m) (.left 0), h.add (.more e k (old ++ new))) else none
      | none => none
    | some cs, some none => match ch with
      | .more e' _ _ => bif Nat.beq e e' && overB (n + m) by_ then some (.sl h.next 0 (n + m) (.left 0), Hp.add { h with t := h.t.del deep b } (.more e k (cs ++ new))) else none
      | _ => none
    | _, _ => none
  | none => none

def appendTo (h : Hp) (e k by_ m : Nat) (new : List SV) : SV → Option (SV × Hp)
  | .v (.slice none 0 0) => bif Nat.beq m 0 then some (.v (.slice none 0 0), h) else
      bif overB m by_ then some (.sl h.next 0 m (.left 0), h.add (.more e k new)) else none
  | .sl b o n c => appendAt h e k by_ b o n c m new
  | _ => none

/-- What is appended to a slice. -/
def appendS (P : Program) (T : TypeId) (s x : SV) (h : Hp) : Option (SV × Hp) :=
  match sliceElem P T with
  | some e => match sizeT P e, bytesT P e, zeroT P e with
    | some k, some by_, some z => bif Nat.beq z.length k && Nat.blt 0 k && Nat.blt 0 by_ && h.ok then match sliceCells h k x with
      | some (m, new) => bif allOne new then appendTo h e k by_ m new s else none
      | none => none else none
    | _, _, _ => none
  | none => none

abbrev AR := Option (Option SV × Hp × List Df)

def aStore (P : Program) (rg : Rg) (h : Hp) (defs : List Df) (T : TypeId) (x y : Operand) : AR := match evalS rg x, evalS rg y, sizeT P T with
  | some (.ptr b o), some v, some k => match cellsS v, h.t.get b with
    | some l, some ch => bif Nat.beq l.length k && allOne l then match ch.cs? with
      | some cs => match spliceS cs o l with
        | some cs' => some (none, h.set b (setCs ch cs'), defs)
        | none => none
      | none => none else none
    | _, _ => none
  | _, _, _ => none

def aPut (P : Program) (rg : Rg) (h : Hp) (defs : List Df) (T : TypeId) (m k x : Operand) : AR := match evalS rg m, evalS rg k, evalS rg x with
  | some (.mp b), some (.v (.int kd n)), some v => match h.t.get b, mapElem P T with
    | some (.map es clock), some (K, _) => bif isIntT P K then match mapPut kd n v clock es with
      | some (es', c) => some (none, h.set b (.map es' c), defs)
      | none => none else none
    | _, _ => none
  | _, _, _ => none

def aAppend (P : Program) (rg : Rg) (h : Hp) (defs : List Df) (T : TypeId) (x y : Operand) : AR := match evalS rg x, evalS rg y with
  | some s, some u => match appendS P T s u h with
    | some (r, h') => some (some r, h', defs)
    | none => none
  | _, _ => none

def aClear (P : Program) (rg : Rg) (h : Hp) (defs : List Df) (T : TypeId) (x : Operand) : AR := match sliceElem P T, evalS rg x with
  | some _, some (.v (.slice none 0 0)) => some (some (.tup []), h, defs)
  | some _, some (.se _ _ _ _) => some (some (.tup []), h, defs)
  | some e, some (.sl b o n _) => match zeroT P e, h.t.get b with
    | some z, some ch => bif allOne z && Nat.blt 0 z.length then match ch.cs? with
      | some cs => match spliceS cs o (repeatS z n) with
        | some cs' => some (some (.tup []), h.set b (setCs ch cs'), defs)
        | none => none
      | none => none else none
    | _, _ => none
  | _, _ => none

def aCopy (P : Program) (rg : Rg) (h : Hp) (defs : List Df) (T : TypeId) (x y : Operand) : AR := match sliceElem P T, evalS rg x, evalS rg y with
  | some e, some (.sl b o nd _), some src => match sizeT P e, h.t.get b with
    | some k, some ch => match sliceCells h k src, ch.cs? with
      | some (m, l), some cs => bif Nat.ble m nd && allOne l then match spliceS cs o l with
        | some cs' => some (some (.v (.int .i64 m)), h.set b (setCs ch cs'), defs)
        | none => none else none
      | _, _ => none
    | _, _ => none
  | _, _, _ => none

def aCall (call : CallR) (rg : Rg) (h : Hp) (defs : List Df) (f : Operand) (args : List Operand) : AR := match evalS rg f, evalSs rg args with
  | some (.fn (.func g) a c), some l => match call (.fn g) (a ++ (l ++ c)) h with
    | some (v, h') => some (some v, h', defs)
    | none => none
  | some (.yld b), some l => match call (.yld b) l h with
    | some (v, h') => some (some v, h', defs)
    | none => none
  | _, _ => none

def stopped : List Df → Bool
  | .stop :: _ => true
  | _ => false

def aDefer (rg : Rg) (h : Hp) (defs : List Df) (f : Operand) (args : List Operand) : AR := bif stopped defs then none else match evalS rg f, evalSs rg args with
  | some (.fn (.func g) a c), some l => some (none, h, .call g (a ++ l) c :: defs)
  | _, _ => none

def aRange (P : Program) (rg : Rg) (h : Hp) (defs : List Df) (T : TypeId) (x : Operand) : AR := bif h.ok then match evalS rg x, mapElem P T with
  | some (.v (.map none)), some _ => some (some (.ptr h.next 0), h.add (.iter none 0 [] 0), defs)
  | some (.mp b), some _ => match h.t.get b with
    | some (.map _ clock) => some (some (.ptr h.next 0), h.add (.iter (some b) clock [] clock), defs)
    | _ => none
  | _, _ => none
  else none

/-- A map without entries, gone through. -/
def aNext (rg : Rg) (h : Hp) (defs : List Df) (x : Operand) : AR := match evalS rg x with
  | some (.ptr b 0) => match h.t.get b with
    | some (.iter none _ _ _) => some (some (.tup [.v (.bool false)]), h, defs)
    | some (.iter (some m) _ _ _) => match h.t.get m with
      | some (.map [] _) => some (some (.tup [.v (.bool false)]), h, defs)
      | _ => none
    | _ => none
  | _ => none

def aBuiltin (P : Program) (rg : Rg) (h : Hp) (defs : List Df) (b : Builtin) (args : List Operand) (aT : List TypeId) : AR := match b, args, aT with
  | .append, [x, y], [T, T2] => match sliceElem P T2 with
    | some _ => aAppend P rg h defs T x y
    | none => none
  | .clear, [x], [T] => aClear P rg h defs T x
  | .copy, [x, y], [T, _] => aCopy P rg h defs T x y
  | _, _, _ => none

/-- An operation that acts. -/
def actS (P : Program) (call : CallR) (rg : Rg) (h : Hp) (defs : List Df) : Op → AR
  | .store T x y => aStore P rg h defs T x y
  | .insert T m k x => aPut P rg h defs T m k x
  | .mapUpdate T m k x => aPut P rg h defs T m k x
  | .call ⟨.builtin b, args, aT⟩ => aBuiltin P rg h defs b args.toList aT.toList
  | .call ⟨.value f, args, _⟩ => aCall call rg h defs f args.toList
  | .defer ⟨.value f, args, _⟩ => aDefer rg h defs f args.toList
  | .range T x => aRange P rg h defs T x
  | .next x false => aNext rg h defs x
  | _ => none

def dstOk (n : Nat) : Option Nat → Bool
  | some d => Nat.blt d n
  | none => true

def doneA (st : St) (dst : Option Nat) : AR → Option St
  | some (some v, h, ds) => match dst with
    | some d => some { regs := putS st.regs d v, hp := h, defs := ds }
    | none => some { regs := st.regs, hp := h, defs := ds }
  | some (none, h, ds) => match dst with
    | some _ => none
    | none => some { regs := st.regs, hp := h, defs := ds }
  | none => none

def needs : List Fact → List (Bool × Bool)
  | [] => []
  | .need b :: l => (b, true) :: needs l
  | _ :: l => needs l

def Hp.also (h : Hp) : List (Bool × Bool) → Hp
  | [] => h
  | x :: l => { h with conds := x :: (l ++ h.conds) }

def opS (P : Program) (call : CallR) (n : Nat) (st : St) (dst : Option Nat) (op : Op) : Option St :=
  bif dstOk n dst then match evalV P st.regs st.hp.t op with
    | some (v, fs) => match dst with
      | some d => some { st.put d v with hp := st.hp.also (needs fs) }
      | none => none
    | none => match evalN P st.regs op with
      | some (ch, mk) => match dst with
        | some d => bif st.hp.ok then some { st.put d (mk st.hp.next) with hp := st.hp.add ch } else none
        | none => none
      | none => doneA st dst (actS P call st.regs st.hp st.defs op)
  else none

/-- A truth value that is looked into: the next answer says which it is. -/
def askB (st : St) (t : Nat) : Option (Bool × St) := match lookS st.regs t with
  | some (.v (.bool b)) => some (b, st)
  | some (.sb c) => bif Nat.blt t 100000 then match st.hp.ask with
    | b :: l => some (b, { st with regs := putS st.regs t (.v (.bool b)), hp := { st.hp with ask := l, conds := (c, b) :: st.hp.conds } })
    | [] => none
    else none
  | _ => none

/-- Is it wanted? -/
def wantS (ops : Array Oper) (st : St) (g : Option (Nat × Bool)) : Option (Bool × St) := match g with
  | none => some (true, st)
  | some (j, want) => match dstOf ops j with
    | some t => match askB st t with
      | some (b, st') => some (b == want, st')
      | none => none
    | none => none

def opsS (P : Program) (call : CallR) (n : Nat) (ops : Array Oper) : List Oper → St → Option St
  | [], st => some st
  | o :: l, st => match wantS ops st o.guard with
    | some (true, st) => match opS P call n st o.dst o.op with
      | some st' => opsS P call n ops l st'
      | none => none
    | some (false, st) => match o.dst with
      | some d => bif Nat.blt d n then opsS P call n ops l (st.put d (.v undef)) else none
      | none => none
    | none => none

/-! ### Regions that draw their order -/

def sameV : Value → Value → Bool
  | .bool a, .bool b => a == b
  | .int k a, .int k' b => decide (k = k') && decide (a = b)
  | .string a, .string b => decide (a.data = b.data)
  | .pointer none, .pointer none | .nilFunc, .nilFunc | .nilIface, .nilIface | .map none, .map none => true
  | .slice none 0 0, .slice none 0 0 => true
  | _, _ => false

mutual
def sameS : SV → SV → Bool
  | .v x, .v y => sameV x y
  | .ptr b o, .ptr c p => Nat.beq b c && Nat.beq o p
  | .sl b o n c, .sl b' o' n' c' => Nat.beq b b' && Nat.beq o o' && Nat.beq n n' && (match c, c' with
    | .known x, .known y | .left x, .left y => Nat.beq x y
    | _, _ => false)
  | .mp b, .mp c => Nat.beq b c
  | .yld b, .yld c => Nat.beq b c
  | .se b o p r, .se b' o' p' r' => Nat.beq b b' && Nat.beq o o' && Nat.beq p p' && Nat.beq r r'
  | .fn f a c, .fn f' a' c' => decide (f = f') && sameSs a a' && sameSs c c'
  | .ifc t x, .ifc u y => Nat.beq t u && sameS x y
  | _, _ => false
def sameSs : List SV → List SV → Bool
  | [], [] => true
  | x :: l, y :: m => sameS x y && sameSs l m
  | _, _ => false
end

/-- The same; what is not looked into is said to be so. -/
def sameC : SV → SV → Option (List (Bool × Bool))
  | .si k n, .si k' m => bif decide (k = k') then some [(decide (n = m), true)] else none
  | .sb a, .sb b => some [(a == b, true)]
  | .osl a n c, .osl a' n' c' => some [(decide (a = a' ∧ n = n' ∧ c = c'), true)]
  | .ss s, .ss s' => some [(decide (s.data = s'.data), true)]
  | .asl i, .asl i' => bif Nat.beq i i' then some [] else none
  | .aptr id i j, .aptr id' i' j' => bif Nat.beq id id' && Nat.beq j j' then some [(decide (i = i'), true)] else none
  | x, y => bif sameS x y then some [] else none
def sameCs : List SV → List SV → Option (List (Bool × Bool))
  | [], [] => some []
  | x :: l, y :: m => match sameC x y, sameCs l m with
    | some a, some b => some (a ++ b)
    | _, _ => none
  | _, _ => none

/-- Do these cells still stand there? -/
def holdsC (t : Tree) : List Fact → Option (List (Bool × Bool))
  | [] => some []
  | .no :: _ => none
  | .ro _ :: fs => holdsC t fs
  | .need b :: fs => match holdsC t fs with
    | some l => some ((b, true) :: l)
    | none => none
  | .cells b o l :: fs => match cellsOf t b with
    | some cs => match takeS l.length (dropS o cs) with
      | some m => match sameCs l m, holdsC t fs with
        | some a, some b => some (a ++ b)
        | _, _ => none
      | none => none
    | none => none

def keepC (t : Tree) (mask : Nat) : List (Nat × List Fact) → Option (List (Bool × Bool))
  | [] => some []
  | (i, fs) :: l => bif mask.testBit i then keepC t mask l else match holdsC t fs, keepC t mask l with
    | some a, some b => some (a ++ b)
    | _, _ => none

def lookN : List (Nat × Ch × (Nat → SV)) → Nat → Option (Ch × (Nat → SV))
  | [], _ => none
  | (j, x) :: l, i => bif Nat.beq j i then some x else lookN l i

abbrev PS := St × List (Nat × List Fact) × List (Nat × Ch × (Nat → SV))

def stepQ (P : Program) (n : Nat) (ops : Array Oper) (i : Nat) (s : PS) : Option PS := match ops[i]? with
  | some o => match o.dst, wantS ops s.1 o.guard with
    | some d, some (true, st) => bif Nat.blt d n then match evalV P st.regs st.hp.t o.op with
      | some (v, fs) => some ({ st.put d v with hp := st.hp.also (needs fs) }, (i, fs) :: s.2.1, s.2.2)
      | none => none else none
    | some d, some (false, st) => bif Nat.blt d n then some (st.put d (.v undef), (i, []) :: s.2.1, s.2.2) else none
    | _, _ => none
  | none => none

def stepA (P : Program) (n : Nat) (ops : Array Oper) (i : Nat) (s : PS) : Option PS := match ops[i]? with
  | some o => match o.dst, o.guard with
    | some d, none => bif Nat.blt d n then match evalN P s.1.regs o.op with
      | some x => some (s.1, s.2.1, (i, x) :: s.2.2)
      | none => none else none
    | _, _ => none
  | none => none

def stepT (n : Nat) (ops : Array Oper) (i : Nat) (s : PS) : Option PS := match dstOf ops i, lookN s.2.2 i with
  | some d, some (ch, mk) => bif Nat.blt d n && s.1.hp.ok then some ({ s.1.put d (mk s.1.hp.next) with hp := s.1.hp.add ch }, s.2.1, s.2.2) else none
  | _, _ => none

def isDefer : Op → Bool
  | .defer _ => true
  | _ => false

def stepE (P : Program) (call : CallR) (n : Nat) (ops : Array Oper) (m : List Nat) (i : Nat) (s : PS) : Option PS := match ops[i]? with
  | some o => match wantS ops s.1 o.guard with
    | some (true, st) => bif isDefer o.op then none else match opS P call n st o.dst o.op with
      | some st' => match keepC st'.hp.t (m.getD i 0) s.2.1 with
        | some cs => some ({ st' with hp := st'.hp.also cs }, s.2.1, s.2.2)
        | none => none
      | none => none
    | some (false, st) => match o.dst with
      | some d => bif Nat.blt d n then some (st.put d (.v undef), s.2.1, s.2.2) else none
      | none => none
    | none => none
  | none => none

def stepP (P : Program) (call : CallR) (n : Nat) (ops : Array Oper) (m : List Nat) (s : PS) : DStep → Option PS
  | .q i => stepQ P n ops i s
  | .ann i => stepA P n ops i s
  | .take i => stepT n ops i s
  | .eff i => stepE P call n ops m i s

def planS (P : Program) (call : CallR) (n : Nat) (ops : Array Oper) (m : List Nat) : List DStep → PS → Option St
  | [], s => some s.1
  | x :: π, s => match stepP P call n ops m s x with
    | some s' => planS P call n ops m π s'
    | none => none

/-! ### Texts -/

abbrev Plans := Nat → Option (List Nat × List DStep)

def loopS (f : St → Option (Ex × St)) : Nat → St → Option (Ex × St)
  | 0, _ => none
  | k + 1, st => match f st with
    | some (.normal, st') => loopS f k st'
    | r => r

/-- What follows a loop over a function. -/
def endLoopS (st : St) : Option (SV × Hp) → Option (Ex × St)
  | some (_, h') => match h'.t.get (st.hp.next + 1) with
    | some (.loop fid n rg ps asg body d .ready) => some (.normal, { st with hp := h'.set (st.hp.next + 1) (.loop fid n rg ps asg body d (.over none)), defs := .col st.hp.next :: st.defs })
    | some (.loop fid n rg ps asg body d (.done j)) => match j with
      | .exit i => some (.exit i, { st with hp := h'.set (st.hp.next + 1) (.loop fid n rg ps asg body d (.over (some (.exit i)))), defs := .col st.hp.next :: st.defs })
      | .ret => some (.ret, { st with hp := h'.set (st.hp.next + 1) (.loop fid n rg ps asg body d (.over (some .ret))), defs := .col st.hp.next :: st.defs })
      | _ => none
    | _ => none
  | none => none

def codeS (P : Program) (call : CallR) (n : Nat) (plans : FuncId → Plans) (fid : FuncId) (fuel : Nat) (jump : Code → St → Option (Ex × St)) : Code → St → Option (Ex × St)
  | .skip, st => some (.normal, st)
  | .region id ops draw, st => bif draw then match plans fid id with
      | some (m, π) => match planS P call n ops m π (st, [], []) with
        | some st' => some (.normal, st')
        | none => none
      | none => none
    else match opsS P call n ops ops.toList st with
      | some st' => some (.normal, st')
      | none => none
  | .seq a b, st => match codeS P call n plans fid fuel jump a st with
    | some (.normal, st') => codeS P call n plans fid fuel jump b st'
    | r => r
  | .cond (.tmp c) x y, st => match askB st c with
    | some (true, st) => codeS P call n plans fid fuel jump x st
    | some (false, st) => codeS P call n plans fid fuel jump y st
    | none => none
  | .cond (.const v) x y, st => match v with
    | .bool true => codeS P call n plans fid fuel jump x st
    | .bool false => codeS P call n plans fid fuel jump y st
    | _ => none
  | .block id c, st => match codeS P call n plans fid fuel jump c st with
    | some (.exit i, st') => bif Nat.beq i id then some (.normal, st') else some (.exit i, st')
    | r => r
  | .loop c, st => loopS (codeS P call n plans fid fuel jump c) fuel st
  | .exit id, st => some (.exit id, st)
  | .label _, st => some (.normal, st)
  | .goto l, st => some (.goto l, st)
  | .ret, st => some (.ret, st)
  | .scope c, st => match codeS P call n plans fid fuel jump c st with
    | some (.goto l, st) => match findLabel c l with
      | some rest => match jump rest st with
        | some (.goto _, _) => none
        | r => r
      | none => none
    | r => r
  | .rangeFunc f ps asg body, st => bif stopped st.defs then none else match evalS st.regs f with
    | some (.fn (.func g) a c) => bif st.hp.ok && calm asg && calm body then
        endLoopS st (call (.fn g) (a ++ (.yld (st.hp.next + 1) :: c)) { st.hp with t := (st.hp.t.set deep st.hp.next (.dfr true)).set deep (st.hp.next + 1) (.loop fid n st.regs ps.toList asg body st.hp.next .ready), next := st.hp.next + 2 })
      else none
    | _ => none
  | _, _ => none

/-- So many jumps, one behind the other. -/
def codeJ (P : Program) (call : CallR) (n : Nat) (plans : FuncId → Plans) (fid : FuncId) (fuel : Nat) : Nat → Code → St → Option (Ex × St)
  | 0 => codeS P call n plans fid fuel (fun _ _ => none)
  | k + 1 => codeS P call n plans fid fuel (codeJ P call n plans fid fuel k)

def resS (P : Program) (st : St) : ResultVar → Option SV
  | .tmp t => lookS st.regs t
  | .cell a T => match evalV P st.regs st.hp.t (.load T (.tmp a)) with
    | some (v, _) => some v
    | none => none

def resSs (P : Program) (st : St) : List ResultVar → Option (List SV)
  | [] => some []
  | x :: l => match resS P st x, resSs P st l with
    | some v, some m => some (v :: m)
    | _, _ => none

def regsS : Nat → List SV → Rg
  | _, [] => .leaf
  | i, v :: l => putS (regsS (i + 1) l) i v

/-- Deferred functions that do nothing where nothing panics. -/
abbrev Quiet := FuncId → Bool

def endDefs (quiet : Quiet) : List Df → Hp → Option Hp
  | [], h => some h
  | .call f a c :: l, h => bif quiet f && Nat.ble (a.length + c.length) 4 then endDefs quiet l h else none
  | .col b :: l, h => match h.t.get b with
    | some (.dfr true) => endDefs quiet l (h.set b (.dfr false))
    | _ => none
  | .stop :: _, _ => none

def oneOf : List SV → SV
  | [v] => v
  | l => .tup l

/-- A loop's variables. -/
def putPs (rg : Rg) (n : Nat) : List Nat → List SV → Option Rg
  | [], [] => some rg
  | p :: ps, v :: vs => bif Nat.blt p n then putPs (putS rg p v) n ps vs else none
  | _, _ => none

def jumpOf : Ex → LS
  | .normal => .ready
  | .exit i => .done (.exit i)
  | .goto l => .done (.goto l)
  | .ret => .done .ret

def goesOn : Ex → Bool
  | .normal => true
  | _ => false

/-- The end of a round: how the loop stands, what is answered. -/
def endRoundS (b : Nat) : Option (Ex × St) → Option (SV × Hp)
  | some (e, st) => match st.hp.t.get b with
    | some (.loop fid n rg ps asg body d .busy) => some (.v (.bool (goesOn e)), st.hp.set b (.loop fid n rg ps asg body d (jumpOf e)))
    | _ => none
  | none => none

/-- A round's body. -/
def bodyS (P : Program) (call : CallR) (n : Nat) (plans : FuncId → Plans) (fid : FuncId) (fuel b : Nat) (body : Code) : Option (Ex × St) → Option (SV × Hp)
  | some (.normal, st) => match st.hp.t.get b with
    | some (.loop fid' n' rg ps asg body' d .ready) => endRoundS b (codeJ P call n plans fid fuel 2 body { st with hp := st.hp.set b (.loop fid' n' rg ps asg body' d .busy) })
    | _ => none
  | _ => none

/-- What is known of calls beforehand. -/
abbrev Sums := FuncId → List SV → Hp → Option (SV × Hp)

/-- A call, to a depth. -/
def callS (P : Program) (plans : FuncId → Plans) (quiet : Quiet) (sums : Sums) (fuel : Nat) : Nat → CallR
  | 0, _, _, _ => none
  | k + 1, .fn f, args, h => match sums f args h with
    | some r => some r
    | none => match P.funcs[f]? with
    | some fn => match fn.body with
      | some c => bif Nat.ble args.length fn.ntmps && Nat.blt fn.ntmps 100000 then match codeJ P (callS P plans quiet sums fuel k) fn.ntmps plans f fuel 2 c ⟨regsS 0 args, h, []⟩ with
        | some (.normal, st) | some (.ret, st) => match endDefs quiet st.defs st.hp with
          | some h' => match resSs P { st with hp := h' } fn.results.toList with
            | some l => some (oneOf l, h')
            | none => none
          | none => none
        | _ => none else none
      | none => none
    | none => none
  | k + 1, .yld b, args, h => match h.t.get b with
    | some (.loop fid n rg ps asg body _ .ready) => bif Nat.blt n 100000 then match putPs rg n ps args with
      | some rg' => bodyS P (callS P plans quiet sums fuel k) n plans fid fuel b body (codeJ P (callS P plans quiet sums fuel k) n plans fid fuel 2 asg ⟨rg', h, [.stop]⟩)
      | none => none else none
    | _ => none

end Go.Ws
