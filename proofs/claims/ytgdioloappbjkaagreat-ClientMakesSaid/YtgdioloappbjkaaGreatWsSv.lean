/- Values over named blocks; a heap of named blocks; what an operation comes to. -/
import Derived.Test.YtgdioloappbjkaaGreatWsSlice
set_option linter.unusedSectionVars false
set_option linter.unusedVariables false
set_option linter.unusedSimpArgs false
namespace Go.Ws

/-- An array of rows of numbers that is only read. -/
structure ArrD where
  block : Nat
  off : Nat
  obj : Obj
  ks : List IntKind
  n : Nat
  cap : Nat
  el : Nat → Nat → Int
  ok : ∃ cs T z, obj = .cells cs T z ∧ ∀ i j k, i < n → ks[j]? = some k → cs[off + i * ks.length + j]? = some (.int k (el i j))

/-- The arrays that are only read. -/
class Arrs where
  get : Nat → Option ArrD

/-- None. -/
instance (priority := low) noArrs : Arrs := ⟨fun _ => none⟩

variable [A : Arrs]

/-- What is left of a block's capacity, or a number. -/
inductive Cp where
  | known (c : Nat)
  | left (r : Nat)

/-- A value whose blocks are names. -/
inductive SV where
  | v (x : Value)
  | ptr (b o : Nat)
  | sl (b o len : Nat) (c : Cp)
  /-- An empty slice behind a block's known rows. -/
  | se (b o o' r : Nat)
  | agg (l : List SV)
  | tup (l : List SV)
  | fn (f : Fn) (first cap : List SV)
  | ifc (t : TypeId) (x : SV)
  | mp (b : Nat)
  /-- A loop's yield. -/
  | yld (b : Nat)
  /-- A number, a truth value, a slice that is not looked into. -/
  | si (k : IntKind) (n : Int)
  | sb (b : Bool)
  | osl (a : Option Addr) (n c : Nat)
  | ss (s : ByteArray)
  /-- A slice of such an array; a place in it. -/
  | asl (id : Nat)
  | aptr (id : Nat) (i : Int) (j : Nat)

/-! ### A tree of blocks, by number -/

inductive Tri (α : Type) where
  | leaf
  | node (x : Option α) (l r : Tri α)

def Tri.get {α : Type} : Tri α → Nat → Option α
  | .leaf, _ => none
  | .node x l r, n => match n with
    | 0 => x
    | n + 1 => bif Nat.beq (n % 2) 0 then l.get (n / 2) else r.get (n / 2)

def Tri.set {α : Type} : Nat → Tri α → Nat → α → Tri α
  | 0, t, _, _ => t
  | k + 1, t, n, c =>
    match t with
    | .leaf => match n with
      | 0 => .node (some c) .leaf .leaf
      | n + 1 => bif Nat.beq (n % 2) 0 then .node none (Tri.set k .leaf (n / 2) c) .leaf else .node none .leaf (Tri.set k .leaf (n / 2) c)
    | .node x l r => match n with
      | 0 => .node (some c) l r
      | n + 1 => bif Nat.beq (n % 2) 0 then .node x (Tri.set k l (n / 2) c) r else .node x l (Tri.set k r (n / 2) c)

def Tri.del {α : Type} : Nat → Tri α → Nat → Tri α
  | 0, t, _ => t
  | k + 1, t, n =>
    match t with
    | .leaf => .leaf
    | .node x l r => match n with
      | 0 => .node none l r
      | n + 1 => bif Nat.beq (n % 2) 0 then .node x (Tri.del k l (n / 2)) r else .node x l (Tri.del k r (n / 2))

/-- A text of no region that draws its order, of no loop over a function. -/
def calm : Code → Bool
  | .region _ _ draw => !draw
  | .seq a b => calm a && calm b
  | .cond _ a b => calm a && calm b
  | .block _ c => calm c
  | .loop c => calm c
  | .scope c => calm c
  | .rangeFunc _ _ _ _ => false
  | _ => true

/-- How a loop over a function stands. -/
inductive LS where
  | ready
  | busy
  | done (j : Code)
  | over (j : Option Code)

/-- A block. -/
inductive Ch where
  | cells (T : TypeId) (cs : List SV)
  | more (T : TypeId) (sz : Nat) (cs : List SV)
  | map (es : List (SV × SV × Nat)) (clock : Nat)
  | iter (m : Option Nat) (since : Nat) (seen : List Nat) (last : Nat)
  /-- A loop's deferred calls: none; taken or not. -/
  | dfr (live : Bool)
  /-- A loop over a function. -/
  | loop (fid n : Nat) (rg : Tri SV) (ps : List Nat) (asg body : Code) (d : Nat) (s : LS)

abbrev Tree := Tri Ch
/-- What is known of a frame. -/
abbrev Rg := Tri SV

def deep : Nat := 40

/-- A heap; the answers that are still to be given, those that were given. -/
structure Hp where
  t : Tree
  next : Nat
  ask : List Bool
  conds : List (Bool × Bool)

def Hp.none : Hp := ⟨.leaf, 0, [], []⟩

/-- A deferred call. -/
inductive Df where
  | call (f : FuncId) (args cap : List SV)
  | col (b : Nat)
  /-- Of a round: none is taken here. -/
  | stop

structure St where
  regs : Rg
  hp : Hp
  defs : List Df

def lookS (r : Rg) (t : Nat) : Option SV := r.get t
def putS (r : Rg) (t : Nat) (v : SV) : Rg := r.set deep t v

def nthS : List SV → Nat → Option SV
  | [], _ => none
  | x :: _, 0 => some x
  | _ :: l, n + 1 => nthS l n

def dropS : Nat → List SV → List SV
  | 0, l => l
  | _ + 1, [] => []
  | n + 1, _ :: l => dropS n l

/-- So many, or nothing. -/
def takeS : Nat → List SV → Option (List SV)
  | 0, _ => some []
  | _ + 1, [] => none
  | n + 1, x :: l => match takeS n l with
    | some m => some (x :: m)
    | none => none

def spliceS : List SV → Nat → List SV → Option (List SV)
  | l, 0, [] => some l
  | [], 0, _ :: _ => none
  | _ :: l, 0, y :: vs => match spliceS l 0 vs with
    | some m => some (y :: m)
    | none => none
  | [], _ + 1, _ => none
  | x :: l, o + 1, vs => match spliceS l o vs with
    | some m => some (x :: m)
    | none => none

/-- A value as it is read. -/
def norm : Value → SV
  | .agg cs => .agg (cs.toList.map .v)
  | .tuple vs => .tup (vs.toList.map .v)
  | x => .v x

def vals : List SV → Option (List Value)
  | [] => some []
  | .v x :: l => match vals l with
    | some m => some (x :: m)
    | none => none
  | .si k n :: l => match vals l with
    | some m => some (.int k n :: m)
    | none => none
  | .sb b :: l => match vals l with
    | some m => some (.bool b :: m)
    | none => none
  | .ss s :: l => match vals l with
    | some m => some (.string s :: m)
    | none => none
  | _ :: _ => none

def anySym : List SV → Bool
  | [] => false
  | .si _ _ :: _ => true
  | .sb _ :: _ => true
  | .ss _ :: _ => true
  | _ :: l => anySym l

/-- Is it, or one of its parts, not looked into? -/
def symS : SV → Bool
  | .si _ _ => true
  | .sb _ => true
  | .ss _ => true
  | .agg l => anySym l
  | _ => false

def symR : Value → Option SV
  | .int k n => some (.si k n)
  | .bool b => some (.sb b)
  | .string s => some (.ss s)
  | _ => none

/-- What was reckoned. -/
def normR (sym : Bool) (r : Value) : Option SV := bif sym then symR r else some (norm r)

/-- One that has no block. -/
def plain : SV → Option Value
  | .v x => some x
  | .agg l => match vals l with
    | some m => some (.agg m.toArray)
    | none => none
  | .ifc t (.v x) => some (.iface t x)
  | .si k n => some (.int k n)
  | .sb b => some (.bool b)
  | .ss s => some (.string s)
  | _ => none

def evalS (rg : Rg) : Operand → Option SV
  | .tmp t => lookS rg t
  | .const v => some (norm v)
  | .global g => some (.v (.pointer (some ⟨g, 0, none⟩)))
  | .func f => some (.fn (.func f) [] [])

def evalSs (rg : Rg) : List Operand → Option (List SV)
  | [] => some []
  | x :: l => match evalS rg x, evalSs rg l with
    | some v, some m => some (v :: m)
    | _, _ => none

def evalPS (rg : Rg) : List (Nat × Operand) → Option (List (Nat × SV))
  | [] => some []
  | (i, x) :: l => match evalS rg x, evalPS rg l with
    | some v, some m => some ((i, v) :: m)
    | _, _ => none

/-- What asks only the program. -/
def pureRun (P : Program) {α : Type} : Sem α → Option α
  | .pure a => some a
  | .program k => pureRun P (k P)
  | _ => none

/-! ### Types -/

def aggT (P : Program) (T : TypeId) : Option Bool := match P.underlying T with
  | some (.struct _) | some (.array _ _) => some true
  | some _ => some false
  | none => none

def sizeT (P : Program) (T : TypeId) : Option Nat := match P.info? T with
  | some i => some i.size
  | none => none

def zeroT (P : Program) (T : TypeId) : Option (List SV) := match P.info? T with
  | some i => match i.zero with
    | some z => some (z.cells.toList.map .v)
    | none => none
  | none => none

def bytesT (P : Program) (T : TypeId) : Option Nat := match P.info? T with
  | some i => some i.bytes
  | none => none

def oneS : SV → Bool
  | .agg _ | .tup _ => false
  | .v x => x.oneCell'
  | _ => true

def allOne : List SV → Bool
  | [] => true
  | x :: l => oneS x && allOne l

/-- The cells of a value. -/
def cellsS : SV → Option (List SV)
  | .agg l => some l
  | x => bif oneS x then some [x] else none

def Ch.cs? : Ch → Option (List SV)
  | .cells _ cs => some cs
  | .more _ _ cs => some cs
  | _ => none

/-- What was read: cells, or what is not told. -/
inductive Fact where
  | cells (b o : Nat) (l : List SV)
  | no
  /-- It must be so. -/
  | need (b : Bool)
  | ro (id : Nat)

def intOf : SV → Option (IntKind × Int)
  | .v (.int k n) => some (k, n)
  | _ => none

/-- A block's value and the nil of its kind. -/
def nilEq (d : TypeDesc) (a b : SV) : Bool := match d, a, b with
  | .pointer _, .ptr _ _, .v (.pointer none) => true
  | .func _ _ _, .fn _ _ _, .v .nilFunc => true
  | .slice _, .sl _ _ _ _, .v (.slice none _ _) => true
  | .slice _, .se _ _ _ _, .v (.slice none _ _) => true
  | .map _ _, .mp _, .v (.map none) => true
  | .interface _, .ifc _ _, .v .nilIface => true
  | _, _, _ => false

def nilEqT (P : Program) (T : TypeId) (a b : SV) : Bool := match P.underlying T with
  | some d => nilEq d a b
  | none => false

def binP (P : Program) (op : BinOp) (T : TypeId) (x y : Operand) (a b : SV) : Option SV :=
  match plain a, plain b with
  | some u, some w => match pureRun P (do eqGuard op T x y u w; binOp op T u w) with
    | some r => normR (symS a || symS b) r
    | none => none
  | _, _ => bif nilEqT P T a b then match op with
    | .eql => some (.v (.bool false))
    | .neq => some (.v (.bool true))
    | _ => none else none

def intS : SV → Option (IntKind × Int × Bool)
  | .v (.int k n) => some (k, n, false)
  | .si k n => some (k, n, true)
  | _ => none

def boolOf : SV → Option Bool
  | .v (.bool b) => some b
  | .sb b => some b
  | _ => none

/-- So many cells. -/
def cellsAt (P : Program) (T : TypeId) (cs : List SV) (o : Nat) : Option (SV × List SV) := match aggT P T with
  | some false => match nthS cs o with
    | some sv => some (sv, [sv])
    | none => none
  | some true => match sizeT P T with
    | some k => match takeS k (dropS o cs) with
      | some l => some (.agg l, l)
      | none => none
    | none => none
  | none => none

def eqF (P : Program) (f : TypeId → SV → SV → Option Bool) (xs ys : List SV) : List Field → Option Bool
  | [] => some true
  | x :: l => bif x.name == "_" then eqF P f xs ys l else match cellsAt P x.type xs x.offset, cellsAt P x.type ys x.offset with
    | some (a, _), some (b, _) => match f x.type a b, eqF P f xs ys l with
      | some p, some q => some (p && q)
      | _, _ => none
    | _, _ => none

/-- Are two the same, part by part? -/
def eqV (P : Program) : Nat → TypeId → SV → SV → Option Bool
  | 0, _, _, _ => none
  | k + 1, T, x, y => match P.underlying T with
    | some (.int _) => match intS x, intS y with
      | some (k1, a, _), some (k2, b, _) => bif decide (k1 = k2) then some (a == b) else none
      | _, _ => none
    | some .bool => match boolOf x, boolOf y with
      | some p, some q => some (p == q)
      | _, _ => none
    | some (.struct fs) => match x, y with
      | .agg l, .agg m => bif P.stoodInHeld T then none else eqF P (eqV P k) l m fs.toList
      | _, _ => none
    | _ => none

/-- Structs with parts that are not looked into. -/
def binA (P : Program) (op : BinOp) (T : TypeId) (x y : SV) : Option SV := bif P.eqGuardType P.depth T then none else match op, eqV P 8 T x y with
  | .eql, some r => some (.sb r)
  | .neq, some r => some (.sb (!r))
  | _, _ => none

def binS (P : Program) (op : BinOp) (T : TypeId) (x y : Operand) (a b : SV) : Option SV := match a, b with
  | .agg l, .agg m => bif anySym l || anySym m then binA P op T (.agg l) (.agg m) else binP P op T x y (.agg l) (.agg m)
  | a, b => binP P op T x y a b

/-- The places of a composite's parts. -/
def placesT (P : Program) (T : TypeId) : Option (List (Nat × Nat)) := match P.underlying T with
  | some (.struct fs) => go fs.toList
  | _ => none
where go : List Field → Option (List (Nat × Nat))
  | [] => some []
  | f :: l => match sizeT P f.type, go l with
    | some k, some m => some ((f.offset, k) :: m)
    | _, _ => none

def nthPlace : List (Nat × Nat) → Nat → Option (Nat × Nat)
  | [], _ => none
  | x :: _, 0 => some x
  | _ :: l, n + 1 => nthPlace l n

def placeF (P : Program) (T : TypeId) : Option (Nat → Option (Nat × Nat)) := match P.underlying T with
  | some (.array _ e) => match sizeT P e with
    | some k => some fun i => some (i * k, k)
    | none => none
  | _ => match placesT P T with
    | some pl => some (nthPlace pl)
    | none => none

def fillS (place : Nat → Option (Nat × Nat)) : List SV → List (Nat × SV) → Option (List SV)
  | cs, [] => some cs
  | cs, (i, v) :: rest => match place i with
    | some (off, size) => match cellsS v with
      | some l => bif Nat.beq l.length size then match spliceS cs off l with
        | some cs' => fillS place cs' rest
        | none => none else none
      | none => none
    | none => none

def repeatS (z : List SV) : Nat → List SV
  | 0 => []
  | n + 1 => z ++ repeatS z n

def bytesOf : List SV → Option (List Int)
  | [] => some []
  | .v (.int .u8 n) :: l => match bytesOf l with
    | some m => some (n :: m)
    | none => none
  | .si .u8 n :: l => match bytesOf l with
    | some m => some (n :: m)
    | none => none
  | _ :: _ => none

/-- A string of these bytes. -/
def strOf (ns : List Int) : ByteArray := ns.foldl (fun r n => r.push (UInt8.ofNat n.toNat)) ByteArray.empty

def boundS (x : Option Operand) (rg : Rg) : Option (Option Nat) := match x with
  | none => some none
  | some o => match evalS rg o with
    | some (.v (.int _ (.ofNat n))) => some (some n)
    | _ => none

/-! ### Operations that only read -/

abbrev VR := Option (SV × List Fact)

def vMove (rg : Rg) (x : Operand) : VR := match evalS rg x with
  | some v => some (v, [])
  | none => none

def vPick (rg : Rg) (c a b : Operand) : VR := match evalS rg c with
  | some (.v (.bool true)) => vMove rg a
  | some (.v (.bool false)) => vMove rg b
  | some (.sb t) => match evalS rg a, evalS rg b with
    | some x, some y => match boolOf x, boolOf y with
      | some p, some q => some (.sb (bif t then p else q), [])
      | _, _ => none
    | _, _ => none
  | _ => none

def cellsOf (t : Tree) (b : Nat) : Option (List SV) := match t.get b with
  | some ch => ch.cs?
  | none => none

/-- The numbers of a row from a place on. -/
def rowS (d : ArrD) (i : Nat) : Nat → List IntKind → List SV
  | _, [] => []
  | j, k :: ks => .si k (d.el i j) :: rowS d i (j + 1) ks

def takeK : Nat → List IntKind → Option (List IntKind)
  | 0, _ => some []
  | _ + 1, [] => none
  | n + 1, k :: l => match takeK n l with
    | some m => some (k :: m)
    | none => none

def dropK : Nat → List IntKind → List IntKind
  | 0, l => l
  | _ + 1, [] => []
  | n + 1, _ :: l => dropK n l

def loadA (P : Program) (T : TypeId) (d : ArrD) (i : Int) (j : Nat) : Option SV := match aggT P T with
  | some false => match dropK j d.ks with
    | k :: _ => some (.si k (d.el i.toNat j))
    | [] => none
  | some true => match sizeT P T with
    | some m => match takeK m (dropK j d.ks) with
      | some l => some (.agg (rowS d i.toNat j l))
      | none => none
    | none => none
  | none => none

def vLoad (P : Program) (rg : Rg) (hp : Tree) (T : TypeId) (x : Operand) : VR := match evalS rg x with
  | some (.aptr id i j) => match A.get id with
    | some d => match loadA P T d i j with
      | some v => some (v, [.ro id])
      | none => none
    | none => none
  | some (.ptr b o) => match cellsOf hp b with
    | some cs => match cellsAt P T cs o with
      | some (v, l) => some (v, [.cells b o l])
      | none => none
    | none => none
  | _ => none

def vNil (rg : Rg) (x : Operand) : VR := match evalS rg x with
  | some (.ptr b o) => some (.ptr b o, [])
  | some (.fn (.func f) a c) => some (.fn (.func f) a c, [])
  | some (.yld b) => some (.yld b, [])
  | some (.aptr id i j) => some (.aptr id i j, [])
  | _ => none

def fieldT (P : Program) (T : TypeId) (i : Nat) : Option Field := match P.underlying T with
  | some (.struct fs) => fs.toList[i]?
  | _ => none

def vFa (P : Program) (rg : Rg) (T : TypeId) (x : Operand) (i : Nat) : VR := match evalS rg x, fieldT P T i with
  | some (.ptr b o), some f => match sizeT P f.type with
    | some (_ + 1) => some (.ptr b (o + f.offset), [])
    | _ => none
  | some (.aptr id i j), some f => match sizeT P f.type with
    | some (_ + 1) => some (.aptr id i (j + f.offset), [])
    | _ => none
  | _, _ => none

def vField (P : Program) (rg : Rg) (T : TypeId) (x : Operand) (i : Nat) : VR := match evalS rg x, fieldT P T i with
  | some (.agg l), some f => match cellsAt P f.type l f.offset with
    | some (v, _) => some (v, [])
    | none => none
  | _, _ => none

def sliceElem (P : Program) (T : TypeId) : Option TypeId := match P.underlying T with
  | some (.slice e) => some e
  | _ => none

def arrayElem (P : Program) (T : TypeId) : Option (Nat × TypeId) := match P.underlying T with
  | some (.array n e) => some (n, e)
  | _ => none

def vIa (P : Program) (rg : Rg) (T : TypeId) (x ix : Operand) : VR := match evalS rg x, evalS rg ix with
  | some (.sl b o len _), some (.v (.int _ (.ofNat i))) => bif Nat.blt i len then match sliceElem P T with
    | some e => match sizeT P e with
      | some k => some (.ptr b (o + i * k), [])
      | none => none
    | none => none else none
  | some (.ptr b o), some (.v (.int _ (.ofNat i))) => match arrayElem P T with
    | some (len, e) => bif Nat.blt i len then match sizeT P e with
      | some k => some (.ptr b (o + i * k), [])
      | none => none else none
    | none => none
  | some (.asl id), some ix => match A.get id, sliceElem P T, intS ix with
    | some d, some e, some (_, i, _) => match sizeT P e with
      | some k => bif Nat.beq k d.ks.length then some (.aptr id i 0, [.need (decide (0 ≤ i ∧ i < d.n))]) else none
      | none => none
    | _, _, _ => none
  | _, _ => none

def vIx (P : Program) (rg : Rg) (T : TypeId) (x ix : Operand) : VR := match evalS rg x, evalS rg ix with
  | some (.v (.string s)), some (.v (.int k n)) => match pureRun P (Instr.index T (.string s) (.int k n)) with
    | some r => some (norm r, [])
    | none => none
  | some (.agg l), some (.v (.int _ (.ofNat i))) => match arrayElem P T with
    | some (len, e) => bif Nat.blt i len then match sizeT P e with
      | some k => match cellsAt P e l (i * k) with
        | some (v, _) => some (v, [])
        | none => none
      | none => none else none
    | none => none
  | _, _ => none

def vBin (P : Program) (rg : Rg) (op : BinOp) (T : TypeId) (x y : Operand) : VR := match evalS rg x, evalS rg y with
  | some a, some b => match binS P op T x y a b with
    | some r => some (r, [])
    | none => none
  | _, _ => none

def vUn (P : Program) (rg : Rg) (op : UnOp) (x : Operand) : VR := match evalS rg x with
  | some a => match plain a with
    | some u => match pureRun P (Op.unary op u) with
      | some r => match normR (symS a) r with
        | some z => some (z, [])
        | none => none
      | none => none
    | none => none
  | none => none

def isU8 (P : Program) (e : TypeId) : Bool := match P.underlying e with
  | some (.int .u8) => true
  | _ => false

def isStr (P : Program) (e : TypeId) : Bool := match P.underlying e with
  | some .string => true
  | _ => false

def vConv (P : Program) (rg : Rg) (hp : Tree) (src dst : TypeId) (x : Operand) : VR := match evalS rg x with
  | some (.v a) => match pureRun P (convert src dst a) with
    | some r => some (norm r, [])
    | none => none
  | some (.si k n) => match pureRun P (convert src dst (.int k n)) with
    | some r => match symR r with
      | some z => some (z, [])
      | none => none
    | none => none
  | some (.sl b o len _) => match sliceElem P src, isStr P dst, cellsOf hp b with
    | some e, true, some cs => bif isU8 P e then match takeS len (dropS o cs) with
      | some l => match bytesOf l with
        | some bs => some (bif anySym l then .ss (strOf bs) else .v (.string (strOf bs)), [.cells b o l])
        | none => none
      | none => none else none
    | _, _, _ => none
  | _ => none

def isIface (P : Program) (T : TypeId) : Option Bool := match P.underlying T with
  | some (.interface _) => some true
  | some _ => some false
  | none => none

def vMkI (P : Program) (rg : Rg) (T : TypeId) (x : Operand) : VR := match evalS rg x, isIface P T with
  | some v, some false => some (.ifc T v, [])
  | _, _ => none

def vMkF (rg : Rg) (f : Fn) (l1 l2 : Array Operand) : VR := match evalSs rg l1.toList, evalSs rg l2.toList with
  | some a, some c => some (.fn f a c, [])
  | _, _ => none

def vBuild (P : Program) (rg : Rg) (T : TypeId) (ps : Array (Nat × Operand)) : VR := match evalPS rg ps.toList, zeroT P T, placeF P T with
  | some l, some z, some pl => match fillS pl z l with
    | some cs => some (.agg cs, [])
    | none => none
  | _, _, _ => none

/-- A slice of which all is known. -/
def cutK (b o k : Nat) (l h m : Nat) : VR :=
  bif Nat.ble l h && Nat.ble h m then some (.sl b (bif Nat.beq m l then o else o + l * k) (h - l) (.known (m - l)), []) else none

/-- One of a block that may have more. -/
def cutM (hp : Tree) (b o k r l h : Nat) : VR := match hp.get b with
  | some (.more _ sz cs) =>
    bif Nat.ble l h && Nat.ble ((h + r) * sz) cs.length && Nat.beq sz k && Nat.blt 0 sz then
      bif Nat.beq l 0 || Nat.blt ((l + r) * sz) cs.length then some (.sl b (o + l * k) (h - l) (.left (r + l)), [])
      else bif Nat.beq h l then some (.se b o (o + l * k) (r + l), []) else none else none
  | _ => none

def cutL (hp : Tree) (b o k r l h m : Nat) : VR := match hp.get b with
  | some (.more _ sz cs) => bif Nat.ble ((m + r) * sz) cs.length && Nat.blt 0 sz then cutK b o k l h m else none
  | _ => none

def vSlice (P : Program) (rg : Rg) (hp : Tree) (T : TypeId) (x : Operand) (lo hi mx : Option Operand) : VR :=
  match evalS rg x, boundS lo rg, boundS hi rg, boundS mx rg with
  | some (.v (.slice none 0 0)), some l, some h, some m => match (sliceElem P T).bind (sizeT P) with
    | some _ => bif Nat.beq (l.getD 0) 0 && Nat.beq (h.getD 0) 0 && Nat.beq (m.getD 0) 0 && (h.isSome || m.isNone) then some (.v (.slice none 0 0), []) else none
    | none => none
  | some (.sl b o len c), some l, some h, some m => match sliceElem P T with
    | some e => match sizeT P e, m, c with
      | some k, none, .known cp => cutK b o k (l.getD 0) (h.getD len) cp
      | some k, some mm, .known cp => bif Nat.ble mm cp && h.isSome then cutK b o k (l.getD 0) (h.getD len) mm else none
      | some k, none, .left r => cutM hp b o k r (l.getD 0) (h.getD len)
      | some k, some mm, .left r => bif h.isSome then cutL hp b o k r (l.getD 0) (h.getD len) mm else none
      | none, _, _ => none
    | none => none
  | some (.ptr b o), some l, some h, some none => match arrayElem P T with
    | some (n, e) => match sizeT P e with
      | some k => cutK b o k (l.getD 0) (h.getD n) n
      | none => none
    | none => none
  | some (.v (.string s)), some l, some h, some none => bif isStr P T then bif Nat.ble (l.getD 0) (h.getD s.size) && Nat.ble (h.getD s.size) s.size then some (.v (.string (s.extract (l.getD 0) (h.getD s.size))), []) else none else none
  | _, _, _, _ => none

def vEx (rg : Rg) (x : Operand) (i : Nat) : VR := match evalS rg x with
  | some (.tup l) => match nthS l i with
    | some v => some (v, [])
    | none => none
  | _ => none

def okS (ok : Bool) (v : SV) (t : Bool) : SV := bif ok then .tup [v, .v (.bool t)] else v

def vTa (P : Program) (rg : Rg) (x : Operand) (asserted : TypeId) (ok : Bool) : VR := match evalS rg x, isIface P asserted with
  | some (.ifc t v), some false => bif Nat.beq t asserted then some (okS ok v true, []) else none
  | _, _ => none

def findS (kd : IntKind) (n : Int) : List (SV × SV × Nat) → Option (Option SV)
  | [] => some none
  | (.v (.int k m), v, _) :: l => bif decide (k = kd) then (bif decide (n = m) then some (some v) else findS kd n l) else none
  | _ :: _ => none

def mapOf (hp : Tree) : SV → Option (List (SV × SV × Nat))
  | .v (.map none) => some []
  | .mp b => match hp.get b with
    | some (.map es _) => some es
    | _ => none
  | _ => none

def mapElem (P : Program) (T : TypeId) : Option (TypeId × TypeId) := match P.underlying T with
  | some (.map K E) => some (K, E)
  | _ => none

def isIntT (P : Program) (K : TypeId) : Bool := match P.underlying K with
  | some (.int _) => true
  | _ => false

def zeroV (P : Program) (T : TypeId) : Option Value := match P.info? T with
  | some i => i.zero
  | none => none

def vLookup (P : Program) (rg : Rg) (hp : Tree) (T : TypeId) (x ix : Operand) (ok : Bool) : VR := match evalS rg x, evalS rg ix, mapElem P T with
  | some m, some (.v (.int kd n)), some (K, E) => match mapOf hp m with
    | some es => bif isIntT P K then match findS kd n es with
      | some (some v) => some (okS ok v true, [.no])
      | some none => match zeroV P E with
        | some z => some (okS ok (norm z) false, [.no])
        | none => none
      | none => none else none
    | none => none
  | _, _, _ => none

def vEntry (rg : Rg) (hp : Tree) (x : Operand) : VR := match evalS rg x with
  | some (.ptr b 0) => match hp.get b with
    | some (.iter (some m) _ [s] last) => match hp.get m with
      | some (.map [(k, v, born)] clock) => bif Nat.beq s born && Nat.beq clock last then some (.tup [k, v], [.no]) else none
      | _ => none
    | _ => none
  | _ => none

def vLen (P : Program) (rg : Rg) (hp : Tree) (T : TypeId) (x : Operand) : VR := match evalS rg x, P.underlying T with
  | some (.sl _ _ n _), some (.slice _) => some (.v (.int .i64 n), [])
  | some (.se _ _ _ _), some (.slice _) => some (.v (.int .i64 0), [])
  | some (.osl _ n _), some (.slice _) => some (.si .i64 n, [])
  | some (.asl id), some (.slice _) => match A.get id with
    | some d => some (.si .i64 d.n, [])
    | none => none
  | some (.v (.slice none 0 0)), some (.slice _) => some (.v (.int .i64 0), [])
  | some (.v (.string s)), some .string => some (.v (.int .i64 s.size), [])
  | some m, some (.map _ _) => match mapOf hp m with
    | some es => some (.v (.int .i64 es.length), [.no])
    | none => none
  | _, _ => none

def vCap (P : Program) (rg : Rg) (T : TypeId) (x : Operand) : VR := match evalS rg x, sliceElem P T with
  | some (.sl _ _ _ (.known n)), some _ => some (.v (.int .i64 n), [])
  | some (.v (.slice none 0 0)), some _ => some (.v (.int .i64 0), [])
  | _, _ => none

def mkInt (k : IntKind) (n : Int) (sym : Bool) : SV := bif sym then .si k n else .v (.int k n)

def vMax (rg : Rg) (x y : Operand) : VR := match evalS rg x, evalS rg y with
  | some a, some b => match intS a, intS b with
    | some (k, p, s), some (k', q, s') => bif decide (k = k') then some (mkInt k (max p q) (s || s'), []) else none
    | _, _ => none
  | _, _ => none

def vMin (rg : Rg) (x y : Operand) : VR := match evalS rg x, evalS rg y with
  | some a, some b => match intS a, intS b with
    | some (k, p, s), some (k', q, s') => bif decide (k = k') then some (mkInt k (min p q) (s || s'), []) else none
    | _, _ => none
  | _, _ => none

def vBuiltin (P : Program) (rg : Rg) (hp : Tree) (b : Builtin) (args : List Operand) (aT : List TypeId) : VR := match b, args, aT with
  | .len, [x], [T] => vLen P rg hp T x
  | .cap, [x], [T] => vCap P rg T x
  | .max, [x, y], _ => vMax rg x y
  | .min, [x, y], _ => vMin rg x y
  | _, _, _ => none

/-- What an operation yields that only reads. -/
def evalV (P : Program) (rg : Rg) (hp : Tree) : Op → VR
  | .move x => vMove rg x
  | .assign x => vMove rg x
  | .pick c a b => vPick rg c a b
  | .load T x => vLoad P rg hp T x
  | .nilCheck x => vNil rg x
  | .fieldAddr T x i => vFa P rg T x i
  | .field T x i => vField P rg T x i
  | .indexAddr T x ix => vIa P rg T x ix
  | .index T x ix => vIx P rg T x ix
  | .binOp op T x y _ => vBin P rg op T x y
  | .unOp op _ x => vUn P rg op x
  | .convert src dst x => vConv P rg hp src dst x
  | .makeInterface T x => vMkI P rg T x
  | .makeFunc f l1 l2 => vMkF rg f l1 l2
  | .build T ps => vBuild P rg T ps
  | .slice T x lo hi mx => vSlice P rg hp T x lo hi mx
  | .extract x i => vEx rg x i
  | .typeAssert x _ asserted ok => vTa P rg x asserted ok
  | .lookup T x ix ok => vLookup P rg hp T x ix ok
  | .entry x => vEntry rg hp x
  | .call ⟨.builtin b, args, aT⟩ => vBuiltin P rg hp b args.toList aT.toList
  | _ => none

/-! ### Operations that make a block -/

abbrev NR := Option (Ch × (Nat → SV))

def nAlloc (P : Program) (T : TypeId) : NR := match zeroT P T with
  | some z => some (.cells T z, fun b => .ptr b 0)
  | none => none

def nBox (rg : Rg) (T : TypeId) (x : Operand) : NR := match evalS rg x with
  | some v => match cellsS v with
    | some l => some (.cells T l, fun b => .ptr b 0)
    | none => none
  | none => none

def nSlice (P : Program) (rg : Rg) (T : TypeId) (len : Nat) (ps : Array (Nat × Operand)) : NR := match sliceElem P T with
  | some e => match sizeT P e, zeroT P e, evalPS rg ps.toList with
    | some k, some z, some l => bif Nat.ble (len * k) 16777216 && Nat.beq z.length k && Nat.blt 0 k then match fillS (fun i => some (i * k, k)) (repeatS z len) l with
      | some cs => some (.cells e cs, fun b => .sl b 0 len (.known len))
      | none => none else none
    | _, _, _ => none
  | none => none

/-- What an operation makes: a new block, and the value. -/
def evalN (P : Program) (rg : Rg) : Op → NR
  | .alloc T => nAlloc P T
  | .box T x => nBox rg T x
  | .buildSlice T len ps => nSlice P rg T len ps
  | .makeMap _ none => some (.map [] 0, fun b => .mp b)
  | _ => none

end Go.Ws
