/-
  The abstract machine: a sound, computable reading of the model (definitions).
-/
import Derived.OrdersIn
import Derived.DefersIn
import Derived.RangeFuncIn
namespace Go.Am
noncomputable section

/-! THE ABSTRACT MACHINE. Written by recursors, in small pieces: the kernel runs it. -/

def ob {α β : Type} (x : Option α) (f : α → Option β) : Option β := Option.rec none f x
def ob2 {α β γ : Type} (x : Option (α × β)) (f : α → β → Option γ) : Option γ := Option.rec none (fun p => Prod.rec f p) x
def ob3 {α β γ δ : Type} (x : Option (α × β × γ)) (f : α → β → γ → Option δ) : Option δ := Option.rec none (fun p => Prod.rec (fun a q => Prod.rec (fun b c => f a b c) q) p) x
/-- Only if the test holds. -/
def ok {β : Type} (b : Bool) (x : Option β) : Option β := Bool.rec none x b

/-- A trie; a place in it is a path. -/
inductive T (α : Type) where
  | e : T α
  | n (l : T α) (v : Option α) (r : T α) : T α

def bitsF (f : Nat) : Nat → List Bool :=
  Nat.rec (fun _ => []) (fun _ ih n => Nat.rec [] (fun m _ => Nat.beq (Nat.mod m 2) 0 :: ih (Nat.div m 2)) n) f
/-- The path of a number. -/
def bits (n : Nat) : List Bool := bitsF n n

def T.val {α : Type} (t : T α) : Option α := T.rec none (fun _ v _ _ _ => v) t
def T.sub {α : Type} (b : Bool) (t : T α) : T α := T.rec .e (fun l _ r _ _ => Bool.rec l r b) t
def T.getP {α : Type} (p : List Bool) : T α → Option α :=
  List.rec (fun t => T.rec none (fun _ v _ _ _ => v) t)
    (fun b _ ih => Bool.rec (fun t => T.rec none (fun l _ _ _ _ => ih l) t) (fun t => T.rec none (fun _ _ r _ _ => ih r) t) b) p
/-- The node with another subtree; the subtree is brought to its head first. -/
def T.hang {α : Type} (b : Bool) (t s : T α) : T α :=
  T.rec t (fun l v r _ _ => T.rec (Bool.rec (.n (.n l v r) none .e) (.n .e none (.n l v r)) b)
    (fun l' v' r' _ _ => Bool.rec (.n (.n l v r) v' r') (.n l' v' (.n l v r)) b) t) s
def T.setP {α : Type} (v : α) (p : List Bool) : T α → T α :=
  List.rec (fun t => T.rec (.n .e (some v) .e) (fun l _ r _ _ => .n l (some v) r) t) (fun b _ ih t => T.hang b t (ih (T.sub b t))) p

/-- The same, nothing forced. -/
def T.lazyP {α : Type} (v : α) (p : List Bool) : T α → T α :=
  List.rec (fun t => T.rec (.n .e (some v) .e) (fun l _ r _ _ => .n l (some v) r) t)
    (fun b _ ih => Bool.rec (fun t => T.rec (.n (ih .e) none .e) (fun l w r _ _ => .n (ih l) w r) t) (fun t => T.rec (.n .e none (ih .e)) (fun l w r _ _ => .n l w (ih r)) t) b) p

def T.get {α : Type} (t : T α) (i : Nat) : Option α := T.getP (bits i) t
def T.put {α : Type} (t : T α) (i : Nat) (v : α) : T α := T.setP v (bits i) t
/-- The trie of a list, from number i on. -/
def T.fill {α : Type} (l : List α) : Nat → T α → T α :=
  List.rec (fun _ t => t) (fun a _ ih i t => T.rec (ih (Nat.succ i) (T.put .e i a)) (fun l v r _ _ => ih (Nat.succ i) (T.put (.n l v r) i a)) t) l
def T.lay {α : Type} (t : T α) (i : Nat) (v : α) : T α := T.lazyP v (bits i) t

/-- Abstract values: an address is the number of an abstract block and a place in it; a slice's capacity is known, or open (to the block's end). osl: a slice of memory that is not looked at. -/
inductive V where
  | bool (b : Bool)
  | int (k : IntKind) (n : Int)
  | str (s : List Nat)
  | ptr (a : Option (Nat × Nat))
  | slc (a : Option (Nat × Nat)) (len : Nat) (cap : Option Nat)
  | map (r : Option Nat)
  | fn (f : Fn) (first captured : List V)
  | nilfn
  | ifc (t : TypeId) (v : V)
  | nilifc
  | agg (cs : List V)
  | tup (vs : List V)
  | osl (a : Option Addr) (len cap : Nat)

def undef : V := .tup []

def V.cells (v : V) : List V :=
  match v with
  | .agg cs => cs
  | v => [v]

def scalarOf (x : Value) : Option V :=
  match x with
  | .bool b => some (.bool b)
  | .int k n => some (.int k n)
  | .string s => some (.str (s.data.toList.map (·.toNat)))
  | .pointer none => some (.ptr none)
  | .slice none 0 0 => some (.slc none 0 (some 0))
  | .map none => some (.map none)
  | .nilFunc => some .nilfn
  | .nilIface => some .nilifc
  | _ => none

def mapO {α β : Type} (f : α → Option β) (l : List α) : Option (List β) :=
  List.rec (some []) (fun x _ ih => ob (f x) fun v => ob ih fun vs => some (v :: vs)) l

def ofValue (x : Value) : Option V :=
  match x with
  | .agg cs => ob (mapO scalarOf cs.toList) fun l => some (.agg l)
  | .tuple vs => ob (mapO scalarOf vs.toList) fun l => some (.tup l)
  | .func (.func f) ⟨[]⟩ ⟨[]⟩ => some (.fn (.func f) [] [])
  | x => scalarOf x

structure ME where
  key : V
  val : V
  born : Nat

structure LP where
  st : LoopState
  pending : Option Code
  ts : T V
  n : Nat
  params : List Tmp
  assign : Code
  body : Code
  defers : Nat

inductive O where
  | cells (elem : TypeId) (cs : List V) (grp : Nat)
  | map (es : List ME) (clock : Nat)
  | siter (s : List Nat) (pos : Nat)
  | miter (m : Option Nat) (since : Nat) (seen : List Nat) (stepped : Nat)
  | loop (l : LP)
  | deferred (open_ : Bool)

/-- next: one more than the number that comes next. -/
structure St where
  heap : T O
  grps : T (Nat × Nat)
  next : Nat

inductive D where
  | collected (r : Nat)
  | call (v : V) (args : List V)

structure Fr where
  ts : T V
  n : Nat
  ds : List D

def Fr.put (dst : Option Tmp) (fr : Fr) (v : V) : Option Fr :=
  Option.rec (some fr) (fun d => Fr.rec (fun ts n ds => ok (Nat.blt d n) (some ⟨ts.lay d v, n, ds⟩)) fr) dst

/-- A thing made ready: a closed term: the kernel brings it to its head once. -/
structure Xw where
  go : Fr → Option V
def getTmp (p : List Bool) (fr : Fr) : Option V := Fr.rec (fun ts _ _ => Option.rec (some undef) (fun v => some v) (T.getP p ts)) fr
def getConst (v : Option V) (_ : Fr) : Option V := v
def tmpAt (t : Tmp) (fr : Fr) : Option V := Fr.rec (fun ts _ _ => ts.get t) fr
def xw (x : Operand) : Xw :=
  match x with
  | .tmp t => ⟨getTmp (bits t)⟩
  | .const v => ⟨getConst (ofValue v)⟩
  | .global _ => ⟨getConst none⟩
  | .func f => ⟨getConst (some (.fn (.func f) [] []))⟩
def ev (x : Operand) (fr : Fr) : Option V := (xw x).go fr

def evs (l : List Operand) (fr : Fr) : Option (List V) :=
  List.rec (some []) (fun x _ ih => ob (ev x fr) fun v => ob ih fun vs => some (v :: vs)) l

/-! Views of values -/

def V.asBool (v : V) : Option Bool := match v with | .bool b => some b | _ => none
def V.asPtr (v : V) : Option (Nat × Nat) := match v with | .ptr (some a) => some a | _ => none
def V.asAgg (v : V) : Option (List V) := match v with | .agg a => some a | _ => none
def V.asNat (v : V) : Option Nat := match v with | .int _ (.ofNat n) => some n | _ => none
def V.asStr (v : V) : Option (List Nat) := match v with | .str s => some s | _ => none
def V.asTup (v : V) : Option (List V) := match v with | .tup s => some s | _ => none

/-! Memory -/

def heapAt (σ : St) (b : Nat) : Option O := St.rec (fun h _ _ => h.get b) σ
def grpAt (σ : St) (g : Nat) : Option (Nat × Nat) := St.rec (fun _ s _ => s.get g) σ
def live (σ : St) (b grp : Nat) : Bool :=
  Option.rec true (fun g => Prod.rec (fun s _ => Nat.ble s b) g) (grpAt σ grp)

def takeN {α : Type} (n : Nat) : List α → Option (List α) :=
  Nat.rec (fun _ => some []) (fun _ ih l => List.rec none (fun a as _ => ob (ih as) fun r => some (a :: r)) l) n
def dropN {α : Type} (n : Nat) : List α → List α :=
  Nat.rec (fun l => l) (fun _ ih l => List.rec [] (fun _ as _ => ih as) l) n
def nth {α : Type} (n : Nat) : List α → Option α :=
  Nat.rec (fun l => List.rec none (fun a _ _ => some a) l) (fun _ ih l => List.rec none (fun _ as _ => ih as) l) n
def len {α : Type} (l : List α) : Nat := List.rec 0 (fun _ _ ih => Nat.succ ih) l

def O.asCells (o : O) : Option (TypeId × List V × Nat) := match o with | .cells e cs g => some (e, cs, g) | _ => none
def cellsAt (σ : St) (b : Nat) : Option (TypeId × List V × Nat) := ob (heapAt σ b) O.asCells

def readCells (σ : St) (a : Nat × Nat) (n : Nat) : Option (List V) :=
  Prod.rec (fun b off => ob3 (cellsAt σ b) fun _ cs g => ok (live σ b g) (takeN n (dropN off cs))) a

def readCell (σ : St) (a : Nat × Nat) : Option V :=
  Prod.rec (fun b off => ob3 (cellsAt σ b) fun _ cs g => ok (live σ b g) (nth off cs)) a

/-- Is it a value of one cell? -/
def V.one (v : V) : Bool := match v with | .agg _ => false | .tup _ => false | _ => true
/-- cs with vs written over it from its head on: none if they don't fit. -/
def over (vs : List V) : List V → Option (List V) :=
  List.rec (fun cs => some cs) (fun v _ ih cs => List.rec none (fun _ cs _ => ok v.one (ob (ih cs) fun r => some (v :: r))) cs) vs
/-- cs with vs written over it from place i on. -/
def splice (vs : List V) (i : Nat) : List V → Option (List V) :=
  Nat.rec (over vs) (fun _ ih cs => List.rec none (fun c cs _ => ob (ih cs) fun r => some (c :: r)) cs) i

def setObj (σ : St) (r : Nat) (o : O) : St := St.rec (fun h s n => ⟨h.put r o, s, n⟩) σ
def setGrp (σ : St) (r : Nat) (o : Nat × Nat) : St := St.rec (fun h s n => ⟨h, s.put r o, n⟩) σ

def writeCells (σ : St) (a : Nat × Nat) (vs : List V) : Option St :=
  Prod.rec (fun b off => ob3 (cellsAt σ b) fun e cs grp => ob (splice vs off cs) fun cs =>
    Option.rec (some (setObj σ b (.cells e cs grp)))
      (fun g => Prod.rec (fun _ tip => ok (Nat.beq tip b) (some (setGrp (setObj σ b (.cells e cs grp)) grp (tip, tip)))) g) (grpAt σ grp)) a

/-- The number that comes next is taken off 'next' by its predecessor: so that the kernel writes it as a numeral. -/
def alloc (σ : St) (o : Nat → O) : Option (Nat × St) :=
  St.rec (fun h s n => Nat.rec none (fun k _ => some (k, ⟨h.put k (o k), s, Nat.succ (Nat.succ k)⟩)) n) σ

def allocCells (σ : St) (e : TypeId) (cs : List V) : Option (Nat × St) := alloc σ fun k => .cells e cs k

def O.asMap (o : O) : Option (List ME × Nat) := match o with | .map es c => some (es, c) | _ => none
def getMap (σ : St) (r : Nat) : Option (List ME × Nat) := ob (heapAt σ r) O.asMap
def O.asLoop (o : O) : Option LP := match o with | .loop l => some l | _ => none
def getLoop (σ : St) (r : Nat) : Option LP := ob (heapAt σ r) O.asLoop

/-! Types: closed terms of the program's constant: the kernel reckons each once. -/

def typesT (P : Program) : T TypeInfo := T.fill P.types.toList 0 .e
def infoT (P : Program) (t : TypeId) : Option TypeInfo := T.get (typesT P) t
def descOf (P : Program) (d : TypeDesc) : Option TypeDesc := match d with | .named _ u => ob (infoT P u) fun i => some i.desc | d => some d
def undT (P : Program) (t : TypeId) : Option TypeDesc := ob (infoT P t) fun i => descOf P i.desc
def sizeT (P : Program) (t : TypeId) : Option Nat := ob (infoT P t) fun i => some i.size
def zeroT (P : Program) (t : TypeId) : Option V := ob (infoT P t) fun i => ob i.zero ofValue
def isAggD (d : TypeDesc) : Bool := match d with | .struct _ | .array _ _ => true | _ => false
def aggT (P : Program) (t : TypeId) : Option Bool := ob (undT P t) fun d => some (isAggD d)
def TypeDesc.asSlice (d : TypeDesc) : Option TypeId := match d with | .slice e => some e | _ => none
def TypeDesc.asStruct (d : TypeDesc) : Option (Array Field) := match d with | .struct e => some e | _ => none
def TypeDesc.asArray (d : TypeDesc) : Option (Nat × TypeId) := match d with | .array n e => some (n, e) | _ => none
def TypeDesc.asMap (d : TypeDesc) : Option (TypeId × TypeId) := match d with | .map k e => some (k, e) | _ => none
def TypeDesc.asPointer (d : TypeDesc) : Option TypeId := match d with | .pointer e => some e | _ => none
def elemT (P : Program) (t : TypeId) : Option TypeId := ob (undT P t) TypeDesc.asSlice
def fieldT (P : Program) (t : TypeId) (i : Nat) : Option Field := ob (undT P t) fun d => ob (TypeDesc.asStruct d) fun fs => fs[i]?
def arrayT (P : Program) (t : TypeId) : Option (Nat × TypeId) := ob (undT P t) TypeDesc.asArray
def mapT (P : Program) (t : TypeId) : Option (TypeId × TypeId) := ob (undT P t) TypeDesc.asMap
/-- An element's size, if it has one. -/
def sizedT (P : Program) (t : TypeId) : Option Nat := ob (sizeT P t) fun n => ok (Nat.blt 0 n) (some n)
def elemSized (P : Program) (t : TypeId) : Option (TypeId × Nat) := ob (elemT P t) fun e => ob (sizedT P e) fun n => some (e, n)

/-- A part of an aggregate's cells. How many cells, and whether it is an aggregate. -/
def shapeT (P : Program) (t : TypeId) : Option (Bool × Nat) := ob (aggT P t) fun b => ob (sizeT P t) fun n => some (b, n)
def partS (s : Bool × Nat) (cs : List V) (off : Nat) : Option V :=
  Prod.rec (fun b n => Bool.rec (nth off cs) (ob (takeN n (dropN off cs)) fun l => some (.agg l)) b) s
def part (P : Program) (t : TypeId) (cs : List V) (off : Nat) : Option V := ob (shapeT P t) fun s => partS s cs off

def loadS (σ : St) (s : Bool × Nat) (a : Nat × Nat) : Option V :=
  Prod.rec (fun b n => Bool.rec (readCell σ a) (ob (readCells σ a n) fun l => some (.agg l)) b) s
def loadT (P : Program) (σ : St) (t : TypeId) (a : Nat × Nat) : Option V := ob (shapeT P t) fun s => loadS σ s a

/-! Operations that leave the state alone -/

def eqNats (a : List Nat) : List Nat → Bool :=
  List.rec (fun b => List.rec true (fun _ _ _ => false) b) (fun x _ ih b => List.rec false (fun y ys _ => Bool.rec false (ih ys) (Nat.beq x y)) b) a

def eqInt (a b : Int) : Bool :=
  match a, b with
  | .ofNat m, .ofNat n => Nat.beq m n
  | .negSucc m, .negSucc n => Nat.beq m n
  | _, _ => false
def ltInt (a b : Int) : Bool :=
  match a, b with
  | .ofNat m, .ofNat n => Nat.blt m n
  | .negSucc m, .negSucc n => Nat.blt n m
  | .negSucc _, .ofNat _ => true
  | .ofNat _, .negSucc _ => false

def eqK (a b : IntKind) : Bool := decide (a = b)

def eqV (a b : V) : Option Bool :=
  match a, b with
  | .bool a, .bool b => some (a == b)
  | .int k a, .int k' b => ok (eqK k k') (some (eqInt a b))
  | .str a, .str b => some (eqNats a b)
  | .ptr none, .ptr none => some true
  | .ptr none, .ptr (some _) => some false
  | .ptr (some _), .ptr none => some false
  | .slc none _ _, .slc none _ _ => some true
  | .slc (some _) _ _, .slc none _ _ => some false
  | .map none, .map none => some true
  | .map (some _), .map none => some false
  | .nilfn, .nilfn => some true
  | .fn _ _ _, .nilfn => some false
  | .nilifc, .nilifc => some true
  | .ifc _ _, .nilifc => some false
  | _, _ => none

def bytesLess (a : List Nat) : List Nat → Bool :=
  List.rec (fun b => List.rec false (fun _ _ _ => true) b)
    (fun x _ ih b => List.rec false (fun y ys _ => Bool.rec (Bool.rec false (ih ys) (Nat.beq x y)) true (Nat.blt x y)) b) a

/-- The integer written out. -/
def intV (k : IntKind) (n : Int) : V :=
  match n with
  | .ofNat m => Nat.rec (.int k (.ofNat 0)) (fun j _ => .int k (.ofNat (Nat.succ j))) m
  | .negSucc m => Nat.rec (.int k (.negSucc 0)) (fun j _ => .int k (.negSucc (Nat.succ j))) m

def bAdd (k : IntKind) (a b : Int) : Option V := some (intV k (k.wrap (a + b)))
def bSub (k : IntKind) (a b : Int) : Option V := some (intV k (k.wrap (a - b)))
def bMul (k : IntKind) (a b : Int) : Option V := some (intV k (k.wrap (a * b)))
def bQuo (k : IntKind) (a b : Int) : Option V := if b = 0 then none else some (intV k (k.wrap (a.tdiv b)))
def bRem (k : IntKind) (a b : Int) : Option V := if b = 0 then none else some (intV k (a.tmod b))
def bAnd (k : IntKind) (a b : Int) : Option V := some (intV k (k.wrap (BitVec.ofInt k.bits a &&& BitVec.ofInt k.bits b).toNat))
def bOr (k : IntKind) (a b : Int) : Option V := some (intV k (k.wrap (BitVec.ofInt k.bits a ||| BitVec.ofInt k.bits b).toNat))
def bXor (k : IntKind) (a b : Int) : Option V := some (intV k (k.wrap (BitVec.ofInt k.bits a ^^^ BitVec.ofInt k.bits b).toNat))
def bEql (_ : IntKind) (a b : Int) : Option V := some (.bool (eqInt a b))
def bNeq (_ : IntKind) (a b : Int) : Option V := some (.bool (not (eqInt a b)))
def bLss (_ : IntKind) (a b : Int) : Option V := some (.bool (ltInt a b))
def bLeq (_ : IntKind) (a b : Int) : Option V := some (.bool (not (ltInt b a)))
def bGtr (_ : IntKind) (a b : Int) : Option V := some (.bool (ltInt b a))
def bGeq (_ : IntKind) (a b : Int) : Option V := some (.bool (not (ltInt a b)))
def bNone (_ : IntKind) (_ _ : Int) : Option V := none

def binInt (op : BinOp) : IntKind → Int → Int → Option V :=
  match op with
  | .add => bAdd
  | .sub => bSub
  | .mul => bMul
  | .quo => bQuo
  | .rem => bRem
  | .eql => bEql
  | .neq => bNeq
  | .lss => bLss
  | .leq => bLeq
  | .gtr => bGtr
  | .geq => bGeq
  | .and => bAnd
  | .or => bOr
  | .xor => bXor
  | _ => bNone

def binStr (op : BinOp) (a b : List Nat) : Option V :=
  match op with
  | .add => ok (Nat.ble (Nat.add (len a) (len b)) 1000000000) (some (.str (a ++ b)))
  | .eql => some (.bool (eqNats a b))
  | .neq => some (.bool (not (eqNats a b)))
  | .lss => some (.bool (bytesLess a b))
  | .leq => some (.bool (bytesLess a b || eqNats a b))
  | .gtr => some (.bool (not (bytesLess a b || eqNats a b)))
  | .geq => some (.bool (not (bytesLess a b)))
  | _ => none

def bShl (k : IntKind) (a b : Int) : Option V := if b < 0 then none else some (intV k (k.wrap (a * 2 ^ (min b.toNat k.bits))))
def bShr (k : IntKind) (a b : Int) : Option V := if b < 0 then none else some (intV k (a.fdiv (2 ^ (min b.toNat k.bits))))

def negO (x : Option Bool) : Option V := ob x fun b => some (.bool (not b))
def posO (x : Option Bool) : Option V := ob x fun b => some (.bool b)

def fitsE (d : TypeDesc) (x : V) : Bool :=
  match d, x with
  | .bool, .bool _ => true
  | .int _, .int _ _ => true
  | .string, .str _ => true
  | _, _ => false
def eqList (d : TypeDesc) (a : List V) : List V → Option Bool :=
  List.rec (fun b => List.rec (some true) (fun _ _ _ => none) b)
    (fun x _ ih b => List.rec none (fun y ys _ => ok (fitsE d x) (ob (eqV x y) fun r => Bool.rec (some false) (ih ys) r)) b) a

/-- Arrays of bools, integers or strings: how many, of what. -/
def plainArr (P : Program) (t : TypeId) : Option (Nat × TypeId × TypeDesc) :=
  ob2 (arrayT P t) fun n e => ob (undT P e) fun d => ob (sizeT P e) fun s => ok (Nat.beq s 1 && !P.eqGuardType P.depth t && !isAggD d) (some (n, e, d))
def eqArr (P : Program) (t : TypeId) (a b : List V) : Option Bool :=
  ob3 (plainArr P t) fun n _ d => ok (Nat.beq (len a) n && Nat.beq (len b) n) (eqList d a b)

def notBytes (P : Program) (e : TypeId) : Bool :=
  match undT P e with
  | some (.int .u8) => false
  | some _ => true
  | none => false
/-- Is it a row of cells in memory that nothing else shares, and not of bytes? -/
def apartRow (P : Program) (σ : St) (b : Nat) : Bool :=
  Option.rec false (fun c => Option.rec (notBytes P c.1) (fun _ => false) (grpAt σ c.2.2)) (cellsAt σ b)
/-- '==' on pointers to what has a size. -/
def eqPtr (P : Program) (σ : St) (t : TypeId) (a b : Nat × Nat) : Option Bool :=
  ob (undT P t) fun d => ob (TypeDesc.asPointer d) fun e => ob (sizedT P e) fun _ =>
    Bool.rec (ok (apartRow P σ a.1 && apartRow P σ b.1) (some false)) (some (Nat.beq a.2 b.2)) (Nat.beq a.1 b.1)

def fitsD (d : TypeDesc) (x : V) : Bool :=
  match d, x with
  | .bool, .bool _ => true
  | .pointer _, .ptr _ => true
  | .slice _, .slc _ _ _ => true
  | .map _ _, .map _ => true
  | .func _ _ _, .fn _ _ _ => true
  | .func _ _ _, .nilfn => true
  | .interface _, .ifc _ _ => true
  | .interface _, .nilifc => true
  | _, _ => false
def eqT (P : Program) (σ : St) (t : TypeId) (x y : V) : Option Bool :=
  match x, y with
  | .ptr (some a), .ptr (some b) => eqPtr P σ t a b
  | .agg a, .agg b => eqArr P t a b
  | x, y => ob (undT P t) fun d => ok (fitsD d x) (eqV x y)

def binT (P : Program) (σ : St) (op : BinOp) (t : TypeId) (x y : V) : Option V :=
  match x, y with
  | .int k a, .int k' b => match op with
    | .shl => bShl k a b
    | .shr => bShr k a b
    | op => ok (eqK k k') (binInt op k a b)
  | .str a, .str b => binStr op a b
  | x, y => match op with
    | .eql => posO (eqT P σ t x y)
    | .neq => negO (eqT P σ t x y)
    | _ => none

def unV (op : UnOp) (x : V) : Option V :=
  match op, x with
  | .neg, .int k n => some (intV k (k.wrap (0 - n)))
  | .not, .bool b => some (.bool (not b))
  | _, _ => none

/-- How far a block, of elements of a type, is seen. -/
def seen (σ : St) (e : TypeId) (b : Nat) : Option Nat := ob3 (cellsAt σ b) fun e' cs _ => ok (Nat.beq e' e) (some (len cs))

def bound (x : Option Operand) (fr : Fr) (d : Nat) : Option Nat :=
  Option.rec (some d) (fun x => ob (ev x fr) V.asNat) x

def sliceStr (fr : Fr) (s : List Nat) (lo hi : Option Operand) : Option V :=
  ob (bound hi fr (len s)) fun h => ob (bound lo fr 0) fun l =>
    ok (Nat.ble l h && Nat.ble h (len s)) (ob (takeN (h - l) (dropN l s)) fun r => some (.str r))

def shift (a : Nat × Nat) (n : Nat) : Nat × Nat := Prod.rec (fun b o => (b, Nat.add o n)) a
def moved (b : Option (Nat × Nat)) (n : Nat) : Option (Nat × Nat) := Option.rec none (fun a => some (shift a n)) b

/-- The upper bound; a full slice must bear one. -/
def hiB (hi mx : Option Operand) (fr : Fr) (n : Nat) : Option Nat :=
  Option.rec (bound hi fr n) (fun _ => ob hi fun x => ob (ev x fr) V.asNat) mx

def sliceKnown (fr : Fr) (base : Option (Nat × Nat)) (size n c : Nat) (lo hi mx : Option Operand) : Option V :=
  ob (bound mx fr c) fun m => ob (hiB hi mx fr n) fun h => ob (bound lo fr 0) fun l =>
    ok (Nat.ble l h && Nat.ble h m && Nat.ble m c) (some (.slc (Bool.rec (moved base (l * size)) base (Nat.beq m l)) (h - l) (some (m - l))))

def sliceOpen (σ : St) (fr : Fr) (a : Nat × Nat) (e size n : Nat) (lo hi : Option Operand) : Option V :=
  ob (bound hi fr n) fun h => ob (bound lo fr 0) fun l => ob (seen σ e a.1) fun L =>
    ok (Nat.ble l h && Nat.ble (a.2 + h * size) L) (some (.slc (some (shift a (l * size))) (h - l) none))

def sliceOpen3 (σ : St) (fr : Fr) (a : Nat × Nat) (e size : Nat) (lo hi : Option Operand) (mx : Operand) : Option V :=
  ob (ob (ev mx fr) V.asNat) fun m => ob (ob hi fun x => ob (ev x fr) V.asNat) fun h => ob (bound lo fr 0) fun l => ob (seen σ e a.1) fun L =>
    ok (Nat.ble l h && Nat.ble h m && Nat.ble (a.2 + m * size) L && Nat.blt l m) (some (.slc (some (shift a (l * size))) (h - l) (some (m - l))))

def stringT (P : Program) (t : TypeId) : Bool := match undT P t with | some .string => true | _ => false
def sliceV (P : Program) (fr : Fr) (σ : St) (t : TypeId) (lo hi mx : Option Operand) (x : V) : Option V :=
  match x with
  | .str s => ok (stringT P t) (Option.rec (sliceStr fr s lo hi) (fun _ => none) mx)
  | .slc base n cap => ob (elemSized P t) fun es =>
    Option.rec (ob base fun a => Option.rec (sliceOpen σ fr a es.1 es.2 n lo hi) (fun m => sliceOpen3 σ fr a es.1 es.2 lo hi m) mx)
      (fun c => sliceKnown fr base es.2 n c lo hi mx) cap
  | .ptr (some a) => ob (arrayT P t) fun ne => ob (sizedT P ne.2) fun s => sliceKnown fr (some a) s ne.1 ne.1 lo hi mx
  | _ => none

def keyEq (a b : V) : Option Bool :=
  match a, b with
  | .int k a, .int k' b => ok (eqK k k') (some (eqInt a b))
  | .str a, .str b => some (eqNats a b)
  | .bool a, .bool b => some (a == b)
  | _, _ => none

def findKey (k : V) (es : List ME) : Nat → Option (Option (Nat × V)) :=
  List.rec (fun _ => some none) (fun e _ ih i => ob (keyEq k e.key) fun b => Bool.rec (ih (Nat.succ i)) (some (some (i, e.val))) b) es

def keyFits (P : Program) (t : TypeId) (k : V) : Bool := Option.rec false (fun d => fitsE d k) (undT P t)

def V.asByte (v : V) : Option Nat := match v with | .int .u8 (.ofNat n) => ok (Nat.blt n 256) (some n) | _ => none
def byteT (P : Program) (e : TypeId) : Bool :=
  match undT P e with
  | some (.int .u8) => true
  | _ => false

def convV (P : Program) (src dst : TypeId) (σ : St) (x : V) : Option V :=
  match undT P src, undT P dst, x with
  | some _, some (.int k), .int _ n => some (intV k (k.wrap n))
  | some _, some .string, .str s => some (.str s)
  | some (.slice e), some .string, .slc base n _ =>
    ok (byteT P e) (Option.rec (some (.str [])) (fun a => ob (readCells σ a n) fun cs => ob (mapO V.asByte cs) fun l => some (.str l)) base)
  | _, _, _ => none

def fillParts (place : Nat → Option (Nat × Nat)) (l : List (Nat × V)) : List V → Option (List V) :=
  List.rec (fun cs => some cs) (fun p _ ih cs => ob (place p.1) fun q => ok (Nat.beq (len p.2.cells) q.2) (ob (splice p.2.cells q.1 cs) ih)) l

def evParts (l : List (Nat × Operand)) (fr : Fr) : Option (List (Nat × V)) :=
  List.rec (some []) (fun p _ ih => ob (ev p.2 fr) fun v => ob ih fun vs => some ((p.1, v) :: vs)) l

def fieldPlaceT (P : Program) (f : Field) : Option (Nat × Nat) := ob (sizeT P f.type) fun n => some (f.offset, n)
def placeIn (l : List (Nat × Nat)) (i : Nat) : Option (Nat × Nat) := nth i l
def elemPlace (size i : Nat) : Option (Nat × Nat) := some (i * size, size)
/-- Where the parts of a struct or of an array lie. -/
def placesT (P : Program) (t : TypeId) : Option (Nat → Option (Nat × Nat)) :=
  match undT P t with
  | some (.struct fs) => ob (mapO (fieldPlaceT P) fs.toList) fun l => some (placeIn l)
  | some (.array _ e) => ob (sizeT P e) fun n => some (elemPlace n)
  | _ => none

def lenV (P : Program) (σ : St) (t : TypeId) (x : V) : Option V :=
  match x with
  | .str s => some (.int .i64 (.ofNat (len s)))
  | .slc _ n _ => some (.int .i64 (.ofNat n))
  | .osl _ n _ => some (.int .i64 (.ofNat n))
  | .map none => some (.int .i64 0)
  | .map (some r) => ob (getMap σ r) fun m => some (.int .i64 (.ofNat (len m.1)))
  | _ => ob (arrayT P t) fun ne => some (.int .i64 (.ofNat ne.1))
def lenFits (P : Program) (t : TypeId) (x : V) : Bool :=
  match undT P t, x with
  | some .string, .str _ => true
  | some (.slice _), .slc _ _ _ => true
  | some (.slice _), .osl _ _ _ => true
  | some (.map _ _), .map _ => true
  | some (.array _ _), .agg _ => true
  | some (.array _ _), .ptr _ => true
  | _, _ => false

abbrev Ev := Fr → St → Option V

def eMove (x : Operand) : Ev := fun fr _ => ev x fr
def ePick (c a b : Operand) : Ev := fun fr _ => ob (ob (ev c fr) V.asBool) fun t => Bool.rec (ev b fr) (ev a fr) t
def eBuild (P : Program) (t : TypeId) (parts : Array (Nat × Operand)) : Ev := fun fr _ =>
  ob (zeroT P t) fun z => ob (evParts parts.toList fr) fun ps => ob (placesT P t) fun pl => ob (fillParts pl ps z.cells) fun cs => some (.agg cs)
def eLoad (P : Program) (t : TypeId) (a : Operand) : Ev := fun fr σ => ob (shapeT P t) fun s => ob (ob (ev a fr) V.asPtr) fun p => loadS σ s p
def V.solid (v : V) : Bool := match v with | .ptr (some _) => true | .fn (.func _) _ _ => true | .fn (.yield _) _ _ => true | .ifc _ _ => true | _ => false
def eNilCheck (x : Operand) : Ev := fun fr _ => ob (ev x fr) fun v => ok v.solid (some v)
def guardOk (x y : Operand) (a b : V) : Bool :=
  match a, b with
  | .nilifc, .nilifc => Region.isConst x || Region.isConst y
  | _, _ => true
def eBin (P : Program) (op : BinOp) (t : TypeId) (x y : Operand) (_ : TypeId) : Ev := fun fr σ => ob (ev x fr) fun a => ob (ev y fr) fun b => ok (guardOk x y a b) (binT P σ op t a b)
def eUn (op : UnOp) (_ : TypeId) (x : Operand) : Ev := fun fr _ => ob (ev x fr) (unV op)
def eConv (P : Program) (s d : TypeId) (x : Operand) : Ev := fun fr σ => ob (ev x fr) (convV P s d σ)
def concrete (P : Program) (t : TypeId) : Bool := match undT P t with | some (.interface _) => false | some _ => true | none => false
def eIface (P : Program) (t : TypeId) (x : Operand) : Ev := fun fr _ => ok (concrete P t) (ob (ev x fr) fun v => some (.ifc t v))
def isFuncF (f : Fn) : Bool := match f with | .func _ => true | _ => false
def eFunc (fn : Fn) (a b : Array Operand) : Ev := fun fr _ => ok (isFuncF fn) (ob (evs a.toList fr) fun x => ob (evs b.toList fr) fun y => some (.fn fn x y))
def eSlice (P : Program) (t : TypeId) (x : Operand) (lo hi mx : Option Operand) : Ev := fun fr σ => ob (ev x fr) (sliceV P fr σ t lo hi mx)
def offsetT (P : Program) (t : TypeId) (i : Nat) : Option Nat := ob (fieldT P t i) fun f => ob (sizedT P f.type) fun _ => some f.offset
def eFieldAddr (P : Program) (t : TypeId) (x : Operand) (i : Nat) : Ev := fun fr _ => ob (offsetT P t i) fun o => ob (ob (ev x fr) V.asPtr) fun p => some (.ptr (some (shift p o)))
def eField (P : Program) (t : TypeId) (x : Operand) (i : Nat) : Ev := fun fr _ => ob (fieldT P t i) fun f => ob (ob (ev x fr) V.asAgg) fun cs => part P f.type cs f.offset
def indexAt (P : Program) (t : TypeId) (k : Nat) (x : V) : Option V :=
  match x with
  | .slc (some a) n _ => ob (elemSized P t) fun es => ok (Nat.blt k n) (some (.ptr (some (shift a (k * es.2)))))
  | .ptr (some a) => ob (arrayT P t) fun ne => ob (sizeT P ne.2) fun s => ok (Nat.blt k ne.1) (some (.ptr (some (shift a (k * s)))))
  | _ => none
def eIndexAddr (P : Program) (t : TypeId) (x i : Operand) : Ev := fun fr _ => ob (ob (ev i fr) V.asNat) fun k => ob (ev x fr) (indexAt P t k)
def indexV (P : Program) (t : TypeId) (k : Nat) (x : V) : Option V :=
  match x with
  | .str s => ok (match undT P t with | some .string => true | _ => false) (ob (nth k s) fun b => some (.int .u8 (.ofNat b)))
  | .agg cs => ob (arrayT P t) fun ne => ob (sizeT P ne.2) fun s => ok (Nat.blt k ne.1) (part P ne.2 cs (k * s))
  | _ => none
def eIndex (P : Program) (t : TypeId) (x i : Operand) : Ev := fun fr _ => ob (ob (ev i fr) V.asNat) fun k => ob (ev x fr) (indexV P t k)
def commaOk (ok : Bool) (v : V) (b : Bool) : V := Bool.rec v (.tup [v, .bool b]) ok
def entriesOf (σ : St) (x : V) : Option (List ME) :=
  match x with
  | .map none => some []
  | .map (some r) => ob (getMap σ r) fun m => some m.1
  | _ => none
def eLookup (P : Program) (t : TypeId) (x i : Operand) (c : Bool) : Ev := fun fr σ =>
  ob (mapT P t) fun ke => ob (ev i fr) fun k => ok (keyFits P ke.1 k) (ob (ob (ev x fr) (entriesOf σ)) fun es => ob (zeroT P ke.2) fun z =>
    ob (findKey k es 0) fun r => some (Option.rec (commaOk c z false) (fun p => commaOk c p.2 true) r))
def assertTo (a : TypeId) (c : Bool) (x : V) : Option V :=
  match x with
  | .ifc t v => ok (Nat.beq t a) (some (commaOk c v true))
  | _ => none
def eAssert (P : Program) (x : Operand) (_ : TypeId) (a : TypeId) (c : Bool) : Ev := fun fr _ => ok (concrete P a) (ob (ev x fr) (assertTo a c))
def eExtract (t : Operand) (i : Nat) : Ev := fun fr _ => ob (ob (ev t fr) V.asTup) (nth i)
def eLen (P : Program) (t : TypeId) (x : Operand) : Ev := fun fr σ => ob (ev x fr) fun v => ok (lenFits P t v) (lenV P σ t v)
def capV (x : V) : Option V := match x with | .slc _ _ (some n) => some (.int .i64 (.ofNat n)) | _ => none
def eCap (P : Program) (t : TypeId) (x : Operand) : Ev := fun fr _ => ob (elemT P t) fun _ => ob (ev x fr) capV
def least (g : Bool) (a b : V) : Option V :=
  match a, b with
  | .int k a, .int k' b => ok (eqK k k') (some (.int k (Bool.rec a b (Bool.rec (ltInt b a) (ltInt a b) g))))
  | _, _ => none
def eLeast (g : Bool) (x y : Operand) : Ev := fun fr _ => ob (ev x fr) fun a => ob (ev y fr) fun b => least g a b
def eNo : Ev := fun _ _ => none

/-! Operations that lay new memory -/

def bytesT (P : Program) (t : TypeId) : Option Nat := ob (infoT P t) fun i => some i.bytes
def zeros (z : List V) (n : Nat) : List V := Nat.rec [] (fun _ ih => z ++ ih) n

abbrev Es := Fr → St → Option (V × St)

def ptrTo (b : Nat) (σ : St) : Option (V × St) := some (.ptr (some (b, 0)), σ)
def slcTo (m : Nat) (c : Option Nat) (b : Nat) (σ : St) : Option (V × St) := some (.slc (some (b, 0)) m c, σ)
def aAlloc (P : Program) (e : TypeId) : Es := fun _ σ => ob (zeroT P e) fun z => ob2 (allocCells σ e z.cells) ptrTo
def aBox (P : Program) (e : TypeId) (x : Operand) : Es := fun fr σ => ob (sizeT P e) fun _ => ob (ev x fr) fun v => ob2 (allocCells σ e v.cells) ptrTo
/-- An element: its type, its size, its zero's cells. -/
def zeroElem (P : Program) (t : TypeId) : Option (TypeId × Nat × List V) :=
  ob (elemSized P t) fun es => ob (zeroT P es.1) fun z => ok (Nat.beq (len z.cells) es.2) (some (es.1, es.2, z.cells))
def aBuildSlice (P : Program) (t : TypeId) (n : Nat) (parts : Array (Nat × Operand)) : Es := fun fr σ =>
  ob (zeroElem P t) fun z => ok (Nat.ble (n * z.2.1) 16000000) (ob (evParts parts.toList fr) fun ps => ob (fillParts (elemPlace z.2.1) ps (zeros z.2.2 n)) fun cs =>
    ob2 (allocCells σ z.1 cs) (slcTo n (some n)))
def aMakeSlice (P : Program) (t : TypeId) (l c : Operand) : Es := fun fr σ =>
  ob (zeroElem P t) fun z => ob (bytesT P z.1) fun b => ob (ob (ev l fr) V.asNat) fun n => ob (ob (ev c fr) V.asNat) fun m =>
    ok (Nat.ble n m && Nat.ble (m * (b + z.2.1)) 100000000) (ob2 (allocCells σ z.1 (zeros z.2.2 m)) (slcTo n (some m)))
def newMap (σ : St) : Option (V × St) := ob2 (alloc σ fun _ => .map [] 0) fun r σ => some (.map (some r), σ)
def aMakeMap (P : Program) (t : TypeId) (r : Option Operand) : Es := fun fr σ =>
  ob (mapT P t) fun _ => ob (bound r fr 0) fun _ => newMap σ
def strBytes (σ : St) (e : TypeId) (x : V) : Option (V × St) :=
  match x with
  | .str l => ob2 (allocCells σ e (l.map fun n => .int .u8 (.ofNat n))) (slcTo (len l) none)
  | _ => none
def aConv (P : Program) (s d : TypeId) (x : Operand) : Es := fun fr σ =>
  ob (elemSized P d) fun es => ok (stringT P s && byteT P es.1 && Nat.beq es.2 1) (ob (ev x fr) (strBytes σ es.1))
def rangeOf (P : Program) (t : TypeId) (σ : St) (x : V) : Option (V × St) :=
  match x with
  | .str s => ok (stringT P t) (ob2 (alloc σ fun _ => .siter s 0) ptrTo)
  | .map none => ob (mapT P t) fun _ => ob2 (alloc σ fun _ => .miter none 0 [] 0) ptrTo
  | .map (some m) => ob (mapT P t) fun _ => ob (getMap σ m) fun c => ob2 (alloc σ fun _ => .miter (some m) c.2 [] c.2) ptrTo
  | _ => none
def aRange (P : Program) (t : TypeId) (x : Operand) : Es := fun fr σ => ob (ev x fr) (rangeOf P t σ)
def sNo : Es := fun _ _ => none

/-! Operations that change memory (but for calls of Go functions) -/

/-- What is appended or copied: n elements' cells. -/
def source (σ : St) (size : Nat) (n : Nat) (x : V) : Option (List V) :=
  match x with
  | .slc none _ _ => ok (Nat.beq n 0) (some [])
  | .slc (some a) _ _ => readCells σ a (n * size)
  | .str s => ok (Nat.beq size 1) (ob (takeN n s) fun l => some (l.map fun b => .int .u8 (.ofNat b)))
  | _ => none
def lenOf (x : V) : Option Nat :=
  match x with
  | .slc _ n _ => some n
  | .str s => some (len s)
  | _ => none

def growTo (σ : St) (e size : Nat) (base : Option (Nat × Nat)) (m n : Nat) (new : List V) : Option (V × St) :=
  ob (Option.rec (ok (Nat.beq m 0) (some [])) (fun a => readCells σ a (m * size)) base) fun old => ob2 (allocCells σ e (old ++ new)) (slcTo (m + n) none)

/-- An append that goes beyond what is seen of a block whose room is open: in place, or in new memory: nobody knows. -/
def cross (σ : St) (e size : Nat) (a : Nat × Nat) (m n : Nat) (new : List V) : Option (V × St) :=
  ob3 (cellsAt σ a.1) fun e' cs grp => ok (Nat.beq e' e && new.all V.one) (ob (readCells σ a (m * size)) fun old => ob2 (alloc σ fun _ => .cells e (old ++ new) grp) fun b σ' =>
    slcTo (m + n) none b (setGrp σ' grp
        (Option.rec (Bool.rec b a.1 (Nat.beq (a.2 + m * size) (len cs)), b)
          (fun g => (Bool.rec b g.1 (Nat.beq (a.2 + m * size) (len cs) && Nat.beq g.2 a.1), b)) (grpAt σ grp))))

def inPlace (σ : St) (size : Nat) (a : Nat × Nat) (m n : Nat) (cap : Option Nat) (new : List V) : Option (V × St) :=
  ob (writeCells σ (shift a (m * size)) new) fun σ => some (.slc (some a) (m + n) cap, σ)

def appendOpen (σ : St) (e size : Nat) (a : Nat × Nat) (m n : Nat) (new : List V) : Option (V × St) :=
  ob (seen σ e a.1) fun L => Bool.rec (cross σ e size a m n new) (inPlace σ size a m n none new) (Nat.ble (a.2 + (m + n) * size) L)
def appendKnown (σ : St) (e size : Nat) (base : Option (Nat × Nat)) (m n c : Nat) (new : List V) : Option (V × St) :=
  Bool.rec (growTo σ e size base m n new) (ob base fun a => inPlace σ size a m n (some c) new) (Nat.ble (m + n) c)

def appendS (σ : St) (e size : Nat) (base : Option (Nat × Nat)) (m : Nat) (cap : Option Nat) (n : Nat) (new : List V) : Option (V × St) :=
  Bool.rec (Option.rec (ob base fun a => appendOpen σ e size a m n new) (fun c => appendKnown σ e size base m n c new) cap) (ok (Option.rec true (fun c => Nat.ble m c) cap) (some (.slc base m cap, σ))) (Nat.beq n 0)

def roomOk (m n bytes size : Nat) : Bool := Nat.ble ((m + n) * (bytes + size)) 1000000000

def appendV (P : Program) (σ : St) (t : TypeId) (s : V) (n : Nat) (new : TypeId × Nat × List V → Option (List V)) : Option (V × St) :=
  match s with
  | .slc base m cap => ob (zeroElem P t) fun z => ob (bytesT P z.1) fun b => ok (roomOk m n b z.2.1) (ob (new z) fun l => appendS σ z.1 z.2.1 base m cap n l)
  | _ => none

def cAppend (P : Program) (t u : TypeId) (x y : Operand) : Es := fun fr σ => ob (undT P u) fun d => ob (ev x fr) fun s => ob (ev y fr) fun v =>
  match d with
  | .int _ => ob v.asNat fun n => ok (Nat.ble n 1000000) (appendV P σ t s n fun z => some (zeros z.2.2 n))
  | _ => ob (lenOf v) fun n => appendV P σ t s n fun z => source σ z.2.1 n v

def copyTo (σ : St) (base : Option (Nat × Nat)) (n : Nat) (new : List V) : Option (V × St) :=
  Bool.rec (ob base fun a => ob (writeCells σ a new) fun σ => some (.int .i64 (.ofNat n), σ)) (some (.int .i64 0, σ)) (Nat.beq n 0)
def copyV (σ : St) (size : Nat) (d x : V) : Option (V × St) :=
  match d with
  | .slc base m _ => ob (lenOf x) fun k => (fun n => ob (source σ size n x) fun l => copyTo σ base n l) (Bool.rec m k (Nat.ble k m))
  | _ => none
def cCopy (P : Program) (t : TypeId) (x y : Operand) : Es := fun fr σ => ob (elemSized P t) fun es => ob (ev x fr) fun d => ob (ev y fr) fun v => copyV σ es.2 d v

def modifyAt (k v : V) (i : Nat) : List ME → List ME :=
  Nat.rec (fun es => List.rec [] (fun e es _ => ⟨k, v, e.born⟩ :: es) es) (fun _ ih es => List.rec [] (fun e es _ => e :: ih es) es) i
def eraseAt (i : Nat) : List ME → List ME :=
  Nat.rec (fun es => List.rec [] (fun _ es _ => es) es) (fun _ ih es => List.rec [] (fun e es _ => e :: ih es) es) i

def V.asMap (v : V) : Option Nat := match v with | .map (some r) => some r | _ => none

def updateV (P : Program) (σ : St) (t : TypeId) (m k v : V) : Option (V × St) :=
  ob (mapT P t) fun ke => ok (keyFits P ke.1 k) (ob m.asMap fun r => ob (getMap σ r) fun c => ob (findKey k c.1 0) fun f =>
    some (undef, Option.rec (setObj σ r (.map (c.1 ++ [⟨k, v, c.2⟩]) (Nat.succ c.2))) (fun p => setObj σ r (.map (modifyAt k v p.1 c.1) c.2)) f))
def cUpdate (P : Program) (t : TypeId) (m k x : Operand) : Es := fun fr σ => ob (ev m fr) fun a => ob (ev k fr) fun b => ob (ev x fr) fun c => updateV P σ t a b c

def deleteV (P : Program) (σ : St) (t : TypeId) (m k : V) : Option (V × St) :=
  ob (mapT P t) fun ke => ok (keyFits P ke.1 k) (match m with
    | .map none => some (.tup [], σ)
    | .map (some r) => ob (getMap σ r) fun c => ob (findKey k c.1 0) fun f => some (.tup [], setObj σ r (.map (Option.rec c.1 (fun p => eraseAt p.1 c.1) f) c.2))
    | _ => none)
def cDelete (P : Program) (t : TypeId) (m k : Operand) : Es := fun fr σ => ob (ev m fr) fun a => ob (ev k fr) fun b => deleteV P σ t a b

def clearV (P : Program) (σ : St) (t : TypeId) (x : V) : Option (V × St) :=
  match x with
  | .map none => some (.tup [], σ)
  | .slc none _ _ => some (.tup [], σ)
  | .slc (some a) n _ => Bool.rec (ob (zeroElem P t) fun z => ob (writeCells σ a (zeros z.2.2 n)) fun σ => some (.tup [], σ)) (some (.tup [], σ)) (Nat.beq n 0)
  | _ => none
def cClear (P : Program) (t : TypeId) (x : Operand) : Es := fun fr σ => ob (undT P t) fun _ => ob (ev x fr) (clearV P σ t)

def stepStr (σ : St) (r : Nat) (s : List Nat) (pos : Nat) : Option (V × St) :=
  List.rec (some (.tup [.bool false], σ))
    (fun c _ _ => ok (Nat.blt c 128) (some (.tup [.bool true, .int .i64 (.ofNat pos), .int .i32 (.ofNat c)], setObj σ r (.siter s (Nat.succ pos))))) (dropN pos s)
def leftOf (seen : List Nat) (es : List ME) : List ME := es.filter fun e => !seen.contains e.born
def stepMap (σ : St) (r m since : Nat) (seen : List Nat) (last : Nat) : Option (V × St) :=
  ob (getMap σ m) fun c => ok (seen.isEmpty || c.1.isEmpty || !c.1.all fun e => Nat.ble last e.born)
    (match leftOf seen c.1 with
     | [] => some (.tup [.bool false], σ)
     | [e] => ok (Nat.blt e.born since) (some (.tup [.bool true, e.key, e.val], setObj σ r (.miter (some m) since (seen ++ [e.born]) c.2)))
     | _ => none)
/-- A step of an iterator; of a map: if at most one way is open. -/
def nextO (σ : St) (r : Nat) (isString : Bool) (o : O) : Option (V × St) :=
  match o, isString with
  | .siter s pos, true => stepStr σ r s pos
  | .miter none _ _ _, false => some (.tup [.bool false], σ)
  | .miter (some m) since seen last, false => stepMap σ r m since seen last
  | _, _ => none
def cNext (it : Operand) (s : Bool) : Es := fun fr σ => ob (ob (ev it fr) V.asPtr) fun p => ok (Nat.beq p.2 0) (ob (heapAt σ p.1) (nextO σ p.1 s))
def cStore (P : Program) (t : TypeId) (a x : Operand) : Es := fun fr σ =>
  ob (ob (ev a fr) V.asPtr) fun p => ob (ev x fr) fun v => ob (sizeT P t) fun n => ok (Nat.beq (len v.cells) n) (ob (writeCells σ p v.cells) fun σ => some (undef, σ))

/-! Calls -/

inductive Tgt where
  | func (f : FuncId) (args : List V)
  | yield (l : Nat) (args : List V)

def tgtValue (args : List V) (x : V) : Option Tgt :=
  match x with
  | .fn (.func f) first captured => some (.func f (first ++ (args ++ captured)))
  | .fn (.yield l) [] _ => some (.yield l args)
  | _ => none
def methodT (P : Program) (t : TypeId) (name : String) : Option (FuncId × Option TypeId) :=
  ob (infoT P t) fun i => ob (i.methods.find? (·.name == name)) fun m => ok m.path.isEmpty (ob m.func fun f =>
    ob (undT P t) fun d => match f.2, d with
      | true, .pointer _ => some (f.1, none)
      | false, .pointer e => some (f.1, some e)
      | false, _ => some (f.1, none)
      | _, _ => none)
def tgtInvoke (P : Program) (σ : St) (name : String) (args : List V) (x : V) : Option Tgt :=
  match x with
  | .ifc t v => ob (methodT P t name) fun m => Option.rec (some (.func m.1 (v :: args))) (fun e => ob v.asPtr fun a => ob (loadT P σ e a) fun y => some (.func m.1 (y :: args))) m.2
  | _ => none

abbrev Et := Fr → St → Option Tgt
/-- What a call runs. -/
def tValue (x : Operand) (args : List Operand) : Et := fun fr _ => ob (evs args fr) fun vs => ob (ev x fr) (tgtValue vs)
def tInvoke (P : Program) (x : Operand) (name : String) (args : List Operand) : Et := fun fr σ => ob (evs args fr) fun vs => ob (ev x fr) (tgtInvoke P σ name vs)

/-- What an operation does: passive: the value alone; lays: new memory; turns: changes memory; calls; defers; or it is not taken in. -/
inductive Ow where
  | pas (f : Ev)
  | lay (f : Es)
  | trn (f : Es)
  | cal (f : Et)
  | dfr (x : Operand) (args : List Operand)
  | no

def bLen (P : Program) (args : List Operand) (ts : List TypeId) : Ow := match args, ts with | [x], t :: _ => .pas (eLen P t x) | _, _ => .no
def bCap (P : Program) (args : List Operand) (ts : List TypeId) : Ow := match args, ts with | [x], t :: _ => .pas (eCap P t x) | _, _ => .no
def bLeast (g : Bool) (args : List Operand) : Ow := match args with | [x, y] => .pas (eLeast g x y) | _ => .no
def bAppend (P : Program) (args : List Operand) (ts : List TypeId) : Ow := match args, ts with | [x, y], [t, u] => .trn (cAppend P t u x y) | _, _ => .no
def bCopy (P : Program) (args : List Operand) (ts : List TypeId) : Ow := match args, ts with | [x, y], t :: _ => .trn (cCopy P t x y) | _, _ => .no
def bDelete (P : Program) (args : List Operand) (ts : List TypeId) : Ow := match args, ts with | [x, y], t :: _ => .trn (cDelete P t x y) | _, _ => .no
def bClear (P : Program) (args : List Operand) (ts : List TypeId) : Ow := match args, ts with | [x], t :: _ => .trn (cClear P t x) | _, _ => .no
def builtinW (P : Program) (b : Builtin) (args : List Operand) (ts : List TypeId) : Ow :=
  match b with
  | .len => bLen P args ts
  | .cap => bCap P args ts
  | .min => bLeast false args
  | .max => bLeast true args
  | .append => bAppend P args ts
  | .copy => bCopy P args ts
  | .delete => bDelete P args ts
  | .clear => bClear P args ts
  | _ => .no
def callW (P : Program) (c : Callee) (args : List Operand) (ts : List TypeId) : Ow :=
  match c with
  | .builtin b => builtinW P b args ts
  | .value x => .cal (tValue x args)
  | .invoke x name => .cal (tInvoke P x name args)
def convW (P : Program) (s d : TypeId) (x : Operand) : Ow := Option.rec (.pas (eConv P s d x)) (fun _ => .lay (aConv P s d x)) (elemT P d)
def deferW (c : Callee) (args : List Operand) : Ow := match c with | .value x => .dfr x args | _ => .no

def opw (P : Program) (o : Op) : Ow :=
  match o with
  | .move x => .pas (eMove x)
  | .assign x => .pas (eMove x)
  | .pick c a b => .pas (ePick c a b)
  | .build t ps => .pas (eBuild P t ps)
  | .load t a => .pas (eLoad P t a)
  | .nilCheck x => .pas (eNilCheck x)
  | .binOp op t x y u => .pas (eBin P op t x y u)
  | .unOp op t x => .pas (eUn op t x)
  | .convert s d x => convW P s d x
  | .makeInterface t x => .pas (eIface P t x)
  | .makeFunc f a b => .pas (eFunc f a b)
  | .slice t x l h m => .pas (eSlice P t x l h m)
  | .fieldAddr t x i => .pas (eFieldAddr P t x i)
  | .field t x i => .pas (eField P t x i)
  | .indexAddr t x i => .pas (eIndexAddr P t x i)
  | .index t x i => .pas (eIndex P t x i)
  | .lookup t x i c => .pas (eLookup P t x i c)
  | .typeAssert x t a c => .pas (eAssert P x t a c)
  | .extract t i => .pas (eExtract t i)
  | .alloc e => .lay (aAlloc P e)
  | .box e x => .lay (aBox P e x)
  | .buildSlice t n ps => .lay (aBuildSlice P t n ps)
  | .makeSlice t l c => .lay (aMakeSlice P t l c)
  | .makeMap t r => .lay (aMakeMap P t r)
  | .range t x => .trn (aRange P t x)
  | .store t a x => .trn (cStore P t a x)
  | .mapUpdate t m k x => .trn (cUpdate P t m k x)
  | .insert t m k x => .trn (cUpdate P t m k x)
  | .next it s => .trn (cNext it s)
  | .call c => callW P c.callee c.args.toList c.argTypes.toList
  | .defer c => deferW c.callee c.args.toList
  | _ => .no

inductive X where
  | normal
  | exit (id : Nat)
  | goto (l : Nat)
  | ret

/-- Where a jump of a round goes, as code. -/
def X.code (x : X) : Option Code :=
  match x with
  | .normal => none
  | .exit id => some (.exit id)
  | .goto l => some (.goto l)
  | .ret => some .ret

structure Rec where
  code : Option Nat → Code → Fr → St → Option (X × Fr × St)
  call : FuncId → List V → St → Option (V × St)

abbrev Orc := FuncId → Option (List V → St → Option (V × St))
abbrev Dorc := FuncId → Option (List V → St → Option St)

def setAll (n : Nat) (ps : List Tmp) : List V → T V → Option (T V) :=
  List.rec (fun vs ts => List.rec (some ts) (fun _ _ _ => none) vs)
    (fun p _ ih vs ts => List.rec none (fun v vs _ => ok (Nat.blt p n) (ih vs (ts.put p v))) vs) ps

def isReady (s : LoopState) : Bool := match s with | .ready => true | _ => false
def isBusy (s : LoopState) : Bool := match s with | .busy => true | _ => false
def isNormal (x : X) : Bool := match x with | .normal => true | _ => false

def endRound (l : Nat) (x : X) (fr : Fr) (σ : St) : Option (V × St) :=
  ok fr.ds.isEmpty (ob (getLoop σ l) fun lp =>
    some (.bool (isNormal x), setObj σ l (.loop ⟨Bool.rec .done .ready (isNormal x), x.code, lp.ts, lp.n, lp.params, lp.assign, lp.body, lp.defers⟩)))

def stepYield (r : Rec) (l : Nat) (args : List V) (σ : St) : Option (V × St) :=
  ob (getLoop σ l) fun lp => ob (setAll lp.n lp.params args lp.ts) fun ts => ob3 (r.code (some l) lp.assign ⟨ts, lp.n, []⟩ σ) fun x fr σ =>
    ok (isNormal x) (ob (getLoop σ l) fun lq => ok (isReady lq.st)
      (ob3 (r.code (some l) lp.body fr (setObj σ l (.loop ⟨.busy, lq.pending, lq.ts, lq.n, lq.params, lq.assign, lq.body, lq.defers⟩))) (endRound l)))

def runTgt (r : Rec) (σ : St) (t : Tgt) : Option (V × St) :=
  match t with
  | .func f args => r.call f args σ
  | .yield l args => stepYield r l args σ

abbrev Rf := Option (Fr × St)
abbrev Go1 := Rec → Option Nat → Fr → St → Rf

def putV (dst : Option Tmp) (fr : Fr) (v : V) (σ : St) : Rf := ob (Fr.put dst fr v) fun fr => some (fr, σ)
def setV (dst : Option Tmp) (fr : Fr) (σ : St) (v : V) : Rf := ob (Fr.put dst fr v) fun fr => some (fr, σ)
def kSkip (dst : Option Tmp) (fr : Fr) (σ : St) : Rf := setV dst fr σ undef

def kPas (dst : Option Tmp) (f : Ev) : Go1 := fun _ _ fr σ => ob (f fr σ) (setV dst fr σ)
def kSt (dst : Option Tmp) (f : Es) : Go1 := fun _ _ fr σ => ob2 (f fr σ) (putV dst fr)
def kCal (dst : Option Tmp) (f : Et) : Go1 := fun r _ fr σ => ob (f fr σ) fun t => ob2 (runTgt r σ t) (putV dst fr)
def isFuncV (v : V) : Bool := match v with | .fn (.func _) _ _ => true | _ => false
def pushCall (v : V) (args : List V) (fr : Fr) : Fr := Fr.rec (fun ts n ds => ⟨ts, n, .call v args :: ds⟩) fr
def kDfr (dst : Option Tmp) (x : Operand) (args : List Operand) : Go1 := fun _ rd fr σ =>
  Option.rec (ob (ev x fr) fun v => ok (isFuncV v) (ob (evs args fr) fun vs => kSkip dst (pushCall v vs fr) σ)) (fun _ => none) rd
def kNo : Go1 := fun _ _ _ _ => none

def goOf (dst : Option Tmp) (w : Ow) : Go1 :=
  match w with
  | .pas f => kPas dst f
  | .lay f => kSt dst f
  | .trn f => kSt dst f
  | .cal f => kCal dst f
  | .dfr x args => kDfr dst x args
  | .no => kNo

def asBoolAt (fr : Fr) (d : Tmp) : Option Bool := ob (tmpAt d fr) V.asBool
def dstAt (ops : List Oper) (j : Nat) : Option Tmp := ob (nth j ops) fun o => o.dst
/-- The guard: the temporary that is asked, the answer that is wanted. -/
def guardAt (d : Option Tmp) (want : Bool) (fr : Fr) : Bool := Option.rec false (fun d => Option.rec false (fun b => b == want) (asBoolAt fr d)) d
def wanted (ops : List Oper) (g : Option (Nat × Bool)) (fr : Fr) : Bool := Option.rec true (fun jw => guardAt (dstAt ops jw.1) jw.2 fr) g

/-- An operation made ready: a closed term: the kernel brings it to its head once. -/
structure Ready where
  go : Go1
def kIf (dst : Option Tmp) (d : Option Tmp) (want : Bool) (f : Go1) : Go1 := fun r rd fr σ => Bool.rec (kSkip dst fr σ) (f r rd fr σ) (guardAt d want fr)
def rdyG (ops : List Oper) (dst : Option Tmp) (g : Option (Nat × Bool)) (f : Go1) : Ready :=
  match g with
  | none => ⟨f⟩
  | some (j, want) => ⟨kIf dst (dstAt ops j) want f⟩
def rdyW (ops : List Oper) (dst : Option Tmp) (g : Option (Nat × Bool)) (w : Ow) : Ready :=
  match w with
  | .pas f => rdyG ops dst g (kPas dst f)
  | .lay f => rdyG ops dst g (kSt dst f)
  | .trn f => rdyG ops dst g (kSt dst f)
  | .cal f => rdyG ops dst g (kCal dst f)
  | .dfr x args => rdyG ops dst g (kDfr dst x args)
  | .no => rdyG ops dst g kNo
/-- One operation: the frame and the state behind it. -/
def rdy (P : Program) (ops : List Oper) (o : Oper) : Ready := rdyW ops o.dst o.guard (opw P o.op)

def runOps (P : Program) (ops : List Oper) (l : List Oper) (r : Rec) (rd : Option Nat) : Fr → St → Rf :=
  List.rec (fun fr σ => some (fr, σ)) (fun o _ ih fr σ => ob2 ((rdy P ops o).go r rd fr σ) ih) l

/-! A region that draws its order -/

/-- Which operations stand ahead of each, by number (bits). -/
def befores (l : List Oper) : List Nat → List Nat :=
  List.rec (fun acc => acc) (fun o _ ih acc => ih (acc ++ [o.after.toList.foldl (fun s e => cond (Region.binds .any e) (s ||| 2 ^ e.on ||| (nth e.on acc).getD 0) s) 0])) l

def number {α : Type} (l : List α) : Nat → List (Nat × α) :=
  List.rec (fun _ => []) (fun a _ ih n => (n, a) :: ih (Nat.succ n)) l

def aheadOf (bef : List Nat) (i : Nat) : Nat := Option.rec 0 (fun n => n) (nth i bef)
def readyNow (bef : List Nat) (done : Nat) (i : Nat) : Bool :=
  !done.testBit i && Nat.beq (Nat.land (aheadOf bef i) done) (aheadOf bef i)

def isAssign (o : Op) : Bool := match o with | .assign _ => true | _ => false
/-- Does it turn something: memory, or a variable? -/
def isTurn (P : Program) (o : Oper) : Bool := isAssign o.op || match opw P o.op with | .pas _ | .lay _ => false | _ => true

/-- The order in which the region is run here: whatever turns nothing as early as may be. -/
def orderOf (P : Program) (ops : List (Nat × Oper)) (bef : List Nat) (fuel : Nat) : Nat → List Nat :=
  Nat.rec (fun _ => []) (fun _ ih done =>
    match ops.find? (fun p => readyNow bef done p.1 && !isTurn P p.2) with
    | some p => p.1 :: ih (done ||| 2 ^ p.1)
    | none => match ops.find? (fun p => readyNow bef done p.1) with
      | some p => p.1 :: ih (done ||| 2 ^ p.1)
      | none => []) fuel

mutual
def same : V → V → Bool
  | .bool a, .bool b => a == b
  | .int k a, .int k' b => eqK k k' && eqInt a b
  | .str a, .str b => eqNats a b
  | .ptr a, .ptr b => a == b
  | .slc a n c, .slc b m d => a == b && Nat.beq n m && c == d
  | .map a, .map b => a == b
  | .nilfn, .nilfn => true
  | .nilifc, .nilifc => true
  | .fn f a b, .fn g c d => decide (f = g) && sames a c && sames b d
  | .ifc t a, .ifc u b => Nat.beq t u && same a b
  | .agg a, .agg b => sames a b
  | .tup a, .tup b => sames a b
  | _, _ => false
def sames : List V → List V → Bool
  | [], [] => true
  | a :: as, b :: bs => same a b && sames as bs
  | _, _ => false
end

/-- Does what was done, and need not have been done yet, yield the same still? -/
def stillP (dst : Option Tmp) (f : Ev) (fr : Fr) (σ : St) : Bool :=
  Option.rec false (fun v => Option.rec true (fun d => Option.rec false (fun u => same v u) (tmpAt d fr)) dst) (f fr σ)
def stillOne (P : Program) (ops : List Oper) (o : Oper) (fr : Fr) (σ : St) : Bool :=
  match opw P o.op with
  | .pas f => !wanted ops o.guard fr || stillP o.dst f fr σ
  | _ => true
def still (P : Program) (ops : List Oper) (ahead : Nat) (done : List Nat) (fr : Fr) (σ : St) : Bool :=
  List.rec true (fun j _ ih => Bool.rec false ih (ahead.testBit j || Option.rec false (fun o => stillOne P ops o fr σ) (nth j ops))) done

def aheadLast (bef : List Nat) (last : Option Nat) : Nat := Option.rec 0 (aheadOf bef) last
def lastOk (P : Program) (ops : List Oper) (bef : List Nat) (done : List Nat) (last : Option Nat) (fr : Fr) (σ : St) : Bool :=
  still P ops (aheadLast bef last) done fr σ
def lastAhead (bef : List Nat) (last : Option Nat) (i : Nat) : Bool :=
  Option.rec true (fun h => (aheadOf bef i).testBit h) last
def turnAt (P : Program) (ops : List Oper) (i : Nat) : Bool := Option.rec false (isTurn P) (nth i ops)

/-- Runs the operations in the order given; last: the last that turns something; done: those done since the region began. -/
def runDrawn (ops : List Oper) (bef : List Nat) (l : List Nat) (P : Program) (r : Rec) (rd : Option Nat) : List Nat → Option Nat → Fr → St → Rf :=
  List.rec (fun done last fr σ => ok (lastOk P ops bef done last fr σ) (some (fr, σ)))
    (fun i _ ih done last fr σ => ob (nth i ops) fun o =>
      Bool.rec (ob2 ((rdy P ops o).go r rd fr σ) (ih (i :: done) last))
        (ok (lastOk P ops bef done last fr σ) (ob2 ((rdy P ops o).go r rd fr σ) (ih (i :: done) (some i))))
        (isTurn P o)) l

/-- The order holds all, and keeps to what stands ahead of what; whatever does not turn comes in the stage in which it is ready. -/
def planOk (P : Program) (ops : List Oper) (bef : List Nat) (l : List Nat) : Nat → Option Nat → Bool :=
  List.rec (fun done _ => Nat.beq (Nat.succ done) (2 ^ len ops)) (fun i _ ih done last => readyNow bef done i && (lastAhead bef last i && ih (done ||| 2 ^ i) (Bool.rec last (some i) (turnAt P ops i)))) l

/-- The temporaries that an operation looks at. -/
def looks (ops : List Oper) (o : Oper) : List Tmp := Oper.looksAt ops.toArray o
/-- What an operation looks at has been written ahead of it, by whatever operation of the region writes it; or is written behind it, by one that turns something; no two write one; what stands ahead of it has a smaller number. -/
def tempsOne (P : Program) (l : List (Nat × Oper)) (bef : List Nat) (ops : List Oper) (i : Nat) (o : Oper) : Bool :=
  (o.after.toList.all fun e => !Region.binds .any e || Nat.blt e.on i) &&
  (l.all fun p => Option.rec true (fun d => (Nat.beq p.1 i || Option.rec true (fun d' => !Nat.beq d d') o.dst) && ((aheadOf bef i).testBit p.1 || ((looks ops o).all (fun t => !Nat.beq d t) || ((aheadOf bef p.1).testBit i && isTurn P p.2)))) p.2.dst)
def tempsOk (P : Program) (bef : List Nat) (ops : List Oper) (l : List (Nat × Oper)) : Bool := l.all fun p => tempsOne P l bef ops p.1 p.2

def planOf (P : Program) (l : List Oper) : List Nat := orderOf P (number l 0) (befores l []) (len l) 0
def drawOk (P : Program) (l : List Oper) : Bool := planOk P l (befores l []) (planOf P l) 0 none && tempsOk P (befores l []) l (number l 0)

def stepDrawn (l : List Oper) (P : Program) (r : Rec) (rd : Option Nat) (fr : Fr) (σ : St) : Rf :=
  ok (drawOk P l) (runDrawn l (befores l []) (planOf P l) P r rd [] none fr σ)

/-! Code -/

abbrev Rx := Option (X × Fr × St)
abbrev Cs := Rec → Option Nat → Fr → St → Rx

def xNormal : Cs := fun _ _ fr σ => some (.normal, fr, σ)
def xRet : Cs := fun _ _ fr σ => some (.ret, fr, σ)
def xExit (id : Nat) : Cs := fun _ _ fr σ => some (.exit id, fr, σ)
def xGoto (l : Nat) : Cs := fun _ _ fr σ => some (.goto l, fr, σ)
/-- What comes behind, if the end was a normal one. -/
def andThen (f : Fr → St → Rx) (x : X) (fr : Fr) (σ : St) : Rx := X.rec (f fr σ) (fun id => some (.exit id, fr, σ)) (fun l => some (.goto l, fr, σ)) (some (.ret, fr, σ)) x
def xSeq (a b : Code) : Cs := fun r rd fr σ => ob3 (r.code rd a fr σ) (andThen (r.code rd b))
def xCond (c : Operand) (a b : Code) : Cs := fun r rd fr σ => ob (ob (ev c fr) V.asBool) fun t => Bool.rec (r.code rd b fr σ) (r.code rd a fr σ) t
def outOf (id : Nat) (x : X) : X := match x with | .exit id' => Bool.rec (.exit id') .normal (Nat.beq id' id) | x => x
def xBlock (id : Nat) (c : Code) : Cs := fun r rd fr σ => ob3 (r.code rd c fr σ) fun x fr σ => some (outOf id x, fr, σ)
def xLoop (c : Code) : Cs := fun r rd fr σ => ob3 (r.code rd c fr σ) (andThen (r.code rd (.loop c)))
def asNormal (fr : Fr) (σ : St) : Rx := some (.normal, fr, σ)
def xOps (P : Program) (ops : List Oper) : Cs := fun r rd fr σ => ob2 (runOps P ops ops r rd fr σ) asNormal
def xDrawn (P : Program) (ops : List Oper) : Cs := fun r rd fr σ => ob2 (stepDrawn ops P r rd fr σ) asNormal
def pushD (d : Option D) (ds : List D) : List D := Option.rec ds (fun d => d :: ds) d
/-- The block for the rounds' deferred calls, its mark. -/
def loopDefers (rd : Option Nat) (σ : St) : Option (Nat × Option D × St) :=
  Option.rec (ob2 (alloc σ fun _ => .deferred true) fun r σ => some (r, some (D.collected r), σ)) (fun l => ob (getLoop σ l) fun lp => some (lp.defers, none, σ)) rd
def rangeEnd (r : Rec) (rd : Option Nat) (l : Nat) (fr : Fr) (_ : V) (σ : St) : Rx :=
  ob (getLoop σ l) fun lp => ok (not (isBusy lp.st))
    ((fun σ => Option.rec (some (.normal, fr, σ)) (fun c => r.code rd c fr σ) lp.pending)
      (setObj σ l (.loop ⟨.exhausted, lp.pending, lp.ts, lp.n, lp.params, lp.assign, lp.body, lp.defers⟩)))
def rangeCallee (l : Nat) (v : V) : Option (FuncId × List V) :=
  match v with
  | .fn (.func f) first captured => some (f, first ++ (.fn (.yield l) [] [] :: captured))
  | _ => none
def xRange (g : Operand) (ps : Array Tmp) (assign body : Code) : Cs := fun r rd fr σ =>
  ob3 (loopDefers rd σ) fun d mark σ => ob2 (alloc σ fun _ => .loop ⟨.ready, none, fr.ts, fr.n, ps.toList, assign, body, d⟩) fun l σ =>
    ob2 (ob (ev g fr) (rangeCallee l)) fun f args => ob2 (r.call f args σ) (rangeEnd r rd l (Fr.rec (fun ts n ds => ⟨ts, n, pushD mark ds⟩) fr))
def xNo : Cs := fun _ _ _ _ => none

structure Cw where
  go : Cs
def regionW (P : Program) (ops : List Oper) (draw : Bool) : Cw := Bool.rec ⟨xOps P ops⟩ ⟨xDrawn P ops⟩ draw
def cw (P : Program) (c : Code) : Cw :=
  match c with
  | .skip => ⟨xNormal⟩
  | .label _ => ⟨xNormal⟩
  | .ret => ⟨xRet⟩
  | .exit id => ⟨xExit id⟩
  | .goto l => ⟨xGoto l⟩
  | .seq a b => ⟨xSeq a b⟩
  | .cond c a b => ⟨xCond c a b⟩
  | .block id c => ⟨xBlock id c⟩
  | .loop c => ⟨xLoop c⟩
  | .region _ ops draw => regionW P ops.toList draw
  | .rangeFunc g ps a b => ⟨xRange g ps a b⟩
  | .scope _ => ⟨xNo⟩
  | .refuse _ => ⟨xNo⟩

def resultOf (P : Program) (σ : St) (ts : T V) (v : ResultVar) : Option V :=
  match v with
  | .tmp t => Option.rec (some undef) (fun v => some v) (ts.get t)
  | .cell a t => ob (ob (ts.get a) V.asPtr) (loadT P σ t)

def oneOrTup (l : List V) : V := match l with | [v] => v | l => .tup l

def ofArgs (args : List V) : Nat → T V → T V :=
  List.rec (fun _ t => t) (fun v _ ih i t => ih (Nat.succ i) (t.put i v)) args

def O.isOpen (o : O) : Bool := match o with | .deferred true => true | _ => false
def unwindOne (dorc : Dorc) (d : D) (σ : St) : Option St :=
  match d with
  | .collected r => ob (heapAt σ r) fun o => ok o.isOpen (some (setObj σ r (.deferred false)))
  | .call (.fn (.func f) first captured) args => ob (dorc f) fun g => g (first ++ (args ++ captured)) σ
  | _ => none
/-- Deferred calls: those of loops have none; those of functions that an oracle knows. -/
def unwind (dorc : Dorc) (ds : List D) : St → Option St :=
  List.rec (fun σ => some σ) (fun d _ ih σ => ob (unwindOne dorc d σ) ih) ds

def ends (x : X) : Bool := match x with | .normal | .ret => true | _ => false
def leave (P : Program) (dorc : Dorc) (rs : Array ResultVar) (x : X) (fr : Fr) (σ : St) : Option (V × St) :=
  ok (ends x) (Fr.rec (fun ts _ ds => ob (unwind dorc ds σ) fun σ => ob (mapO (resultOf P σ ts) rs.toList) fun vs => some (oneOrTup vs, σ)) fr)
def runFunc (fn : Func) (P : Program) (dorc : Dorc) (r : Rec) (args : List V) (σ : St) : Option (V × St) :=
  ob fn.body fun c => ok (Nat.ble (len args) fn.ntmps) (ob3 (r.code none c ⟨ofArgs args 0 .e, fn.ntmps, []⟩ σ) (leave P dorc fn.results))
def funcsT (P : Program) : T Func := T.fill P.funcs.toList 0 .e
def funcAt (P : Program) (f : FuncId) : Option Func := T.get (funcsT P) f
def callFn (P : Program) (orc : Orc) (dorc : Dorc) (r : Rec) (f : FuncId) (args : List V) (σ : St) : Option (V × St) :=
  Option.rec (ob (funcAt P f) fun fn => runFunc fn P dorc r args σ) (fun g => g args σ) (orc f)

/-- The machine, so many levels deep. -/
def mk (P : Program) (orc : Orc) (dorc : Dorc) (fuel : Nat) : Rec :=
  Nat.rec ⟨fun _ _ _ _ => none, fun _ _ _ => none⟩ (fun _ r => ⟨fun rd c fr σ => (cw P c).go r rd fr σ, callFn P orc dorc r⟩) fuel

end
end Go.Am
