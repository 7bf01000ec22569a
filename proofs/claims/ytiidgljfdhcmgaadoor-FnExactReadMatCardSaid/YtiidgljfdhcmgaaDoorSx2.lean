/-
  A run of a function's code on symbols: floats are terms over the arguments, integers and memory of the call's own are plain. Definitions alone; conditions: none.
-/
import Derived.Test.YtiidgljfdhcmgaaDoorSx1
import Derived.WalkKit
import Derived.Deep.Draws
import Derived.Orders
namespace Go.Sx

/-- A term for a float. 'bin c': c % 4 tells the operation, c / 4 the width. -/
inductive T where
  | arg (i : Nat)
  | lit (k : FloatKind) (b : Nat)
  | bin (c : Nat) (x y : T)
  | neg (k : FloatKind) (x : T)
  | wide (x : T)
  | narrow (x : T)
  | f1 (g : Nat) (x : T)
  | f2 (g : Nat) (x y : T)
  | mm (c : Nat) (x y : T)
  | abs (k : FloatKind) (x : T)

def fk : FloatKind → Nat
  | .f32 => 0
  | .f64 => 1

def T.beq : T → T → Bool
  | .arg i, .arg j => Nat.beq i j
  | .lit k b, .lit k' b' => Nat.beq (fk k) (fk k') && Nat.beq b b'
  | .bin c x y, .bin c' x' y' => Nat.beq c c' && T.beq x x' && T.beq y y'
  | .neg k x, .neg k' x' => Nat.beq (fk k) (fk k') && T.beq x x'
  | .wide x, .wide x' => T.beq x x'
  | .narrow x, .narrow x' => T.beq x x'
  | .f1 g x, .f1 g' x' => Nat.beq g g' && T.beq x x'
  | .f2 g x y, .f2 g' x' y' => Nat.beq g g' && T.beq x x' && T.beq y y'
  | .mm c x y, .mm c' x' y' => Nat.beq c c' && T.beq x x' && T.beq y y'
  | .abs k x, .abs k' x' => Nat.beq (fk k) (fk k') && T.beq x x'
  | _, _ => false

/-- What is asked of floats: a comparison ('c': which), that a narrowing fits, that two floats are the same, all NaNs taken as one. -/
inductive Atom where
  | cmp (c : Nat) (k : FloatKind) (x y : T)
  | fits (x : T)
  | same (x y : T)

def Atom.beq : Atom → Atom → Bool
  | .cmp c k x y, .cmp c' k' x' y' => Nat.beq c c' && Nat.beq (fk k) (fk k') && T.beq x x' && T.beq y y'
  | .fits x, .fits x' => T.beq x x'
  | .same x y, .same x' y' => T.beq x x' && T.beq y y'
  | _, _ => false

abbrev Facts := List (Atom × Bool)

def look (a : Atom) : Facts → Option Bool
  | [] => none
  | (b, t) :: r => if Atom.beq a b then some t else look a r

/-- Decide an atom: by what is known, or both ways. -/
def ask (a : Atom) (fs : Facts) (K : Bool → Facts → Bool) : Bool :=
  match look a fs with
  | some t => K t fs
  | none => K true ((a, true) :: fs) && K false ((a, false) :: fs)

/-- One cell. -/
inductive SV where
  | int (k : IntKind) (n : Int)
  | bool (b : Bool)
  | flt (k : FloatKind) (t : T)
  | ptr (id off : Nat)
  | slc (id off len cap : Nat)
  | bits (k : FloatKind) (t : T)

inductive V where
  | sc (s : SV)
  | agg (l : List SV)
  | tup (a b : V)
  | other (v : Value)

structure St where
  facts : Facts
  heap : List (List SV)
  old : Nat

def absS : Value → Option SV
  | .int k n => some (.int k n)
  | .bool b => some (.bool b)
  | .float k b => some (.flt k (.lit k b))
  | _ => none

def absL : List Value → Option (List SV)
  | [] => some []
  | v :: r => match absS v, absL r with
    | some s, some l => some (s :: l)
    | _, _ => none

def absV (v : Value) : V :=
  match v with
  | .agg cs => match absL cs.toList with
    | some l => .agg l
    | none => .other v
  | v => match absS v with
    | some s => .sc s
    | none => .other v

def undefV : V := .other undef

def evA (tmps : List V) : Operand → V
  | .tmp t => tmps.getD t undefV
  | .const v => absV v
  | .global g => .other (.pointer (some ⟨g, 0, none⟩))
  | .func f => .other (.func (.func f) #[] #[])

/-! ### Values made plain before they are handed on -/
def forceNat (n : Nat) (K : Nat → Bool) : Bool :=
  match n with
  | 0 => K 0
  | m + 1 => K (m + 1)
def forceInt (n : Int) (K : Int → Bool) : Bool :=
  match n with
  | .ofNat m => forceNat m fun m => K (.ofNat m)
  | .negSucc m => forceNat m fun m => K (.negSucc m)
def forceSV (s : SV) (K : SV → Bool) : Bool :=
  match s with
  | .int k n => forceInt n fun n => K (.int k n)
  | .bool b => match b with
    | true => K (.bool true)
    | false => K (.bool false)
  | .flt k t => K (.flt k t)
  | .bits k t => K (.bits k t)
  | .ptr id off => forceNat id fun id => forceNat off fun off => K (.ptr id off)
  | .slc id off len cap => forceNat id fun id => forceNat off fun off => forceNat len fun len => forceNat cap fun cap => K (.slc id off len cap)
def forceL {α : Type} (l : List α) (K : List α → Bool) : Bool :=
  match l with
  | [] => K []
  | x :: r => forceL r fun r => K (x :: r)
def forceSL (l : List SV) (K : List SV → Bool) : Bool :=
  match l with
  | [] => K []
  | x :: r => forceSV x fun x => forceSL r fun r => K (x :: r)
def forceV (v : V) (K : V → Bool) : Bool :=
  match v with
  | .sc s => forceSV s fun s => K (.sc s)
  | .agg l => forceSL l fun l => K (.agg l)
  | .tup a b => forceV a fun a => forceV b fun b => K (.tup a b)
  | .other v => K (.other v)

def put (tmps : List V) (d : Option Tmp) (v : V) : List V :=
  match d with
  | some d => tmps.set d v
  | none => tmps

/-! ### Operations -/
section
variable (P : Program)

def isAggT (t : TypeId) : Bool :=
  match P.underlying t with
  | some (.struct _) | some (.array _ _) => true
  | some _ => false
  | none => false

def cellsV : V → Option (List SV)
  | .sc s => some [s]
  | .agg l => some l
  | _ => none

def loadA (heap : List (List SV)) (t : TypeId) : V → Option V
  | .sc (.ptr id off) => match P.underlying t, P.info? t, heap[id]? with
    | some _, some i, some cells =>
      if isAggT P t then (if off + i.size ≤ cells.length then some (.agg ((cells.drop off).take i.size)) else none)
      else (cells[off]?).map .sc
    | _, _, _ => none
  | _ => none

def storeA (heap : List (List SV)) (old : Nat) (t : TypeId) : V → V → Option (List (List SV))
  | .sc (.ptr id off), v => match P.info? t, heap[id]?, cellsV v with
    | some i, some cells, some l =>
      if Nat.ble old id && Nat.beq l.length i.size && Nat.ble (off + l.length) cells.length then
        some (heap.set id (cells.take off ++ l ++ cells.drop (off + l.length)))
      else none
    | _, _, _ => none
  | _, _ => none

def zeroA (t : TypeId) : Option (List SV) :=
  match P.info? t with
  | some i => match i.zero with
    | some v => cellsV (absV v)
    | none => none
  | none => none

/-- The parts of an array laid into its cells. -/
def fillA (size : Nat) (cells : List SV) : List (Nat × V) → Option (List SV)
  | [] => some cells
  | (i, v) :: r => match cellsV v with
    | some l => if Nat.beq l.length size && Nat.ble (i * size + l.length) cells.length then
        fillA size (cells.take (i * size) ++ l ++ cells.drop (i * size + l.length)) r else none
    | none => none

def buildA (t : TypeId) (parts : List (Nat × V)) : Option V :=
  match P.underlying t, zeroA P t with
  | some (.array _ elem), some z => match P.info? elem with
    | some i => (fillA i.size z parts).map .agg
    | none => none
  | _, _ => none

/-- A slice's literal whose elements are of one cell: the cells of its array. -/
def buildSliceA (t : TypeId) (n : Nat) (parts : List (Nat × V)) : Option (List SV) :=
  match P.underlying t with
  | some (.slice elem) => match P.info? elem, zeroA P elem with
    | some i, some [z] => if Nat.beq i.size 1 && Nat.ble 1 n && Nat.ble n 100 then fillA 1 (List.replicate n z) parts else none
    | _, _ => none
  | _ => none

def indexAddrA (t : TypeId) : V → V → Option V
  | .sc (.ptr id off), .sc (.int _ i) => match P.underlying t with
    | some (.array len elem) => match P.info? elem with
      | some e => if decide (0 ≤ i ∧ i < (len : Int)) then some (.sc (.ptr id (off + i.toNat * e.size))) else none
      | none => none
    | _ => none
  | .sc (.slc id off len _), .sc (.int _ i) => match P.underlying t with
    | some (.slice elem) => match P.info? elem with
      | some e => if decide (0 ≤ i ∧ i < (len : Int)) then some (.sc (.ptr id (off + i.toNat * e.size))) else none
      | none => none
    | _ => none
  | _, _ => none

/-- 'x[i]' of an array that is a value. -/
def indexA (t : TypeId) : V → V → Option V
  | .agg cells, .sc (.int _ i) => match P.underlying t with
    | some (.array len elem) => match P.info? elem, P.underlying elem with
      | some e, some _ => if decide (0 ≤ i ∧ i < (len : Int)) then
          (if isAggT P elem then (if Nat.ble (i.toNat * e.size + e.size) cells.length then some (.agg ((cells.drop (i.toNat * e.size)).take e.size)) else none)
          else (cells[i.toNat * e.size]?).map .sc)
        else none
      | _, _ => none
    | _ => none
  | _, _ => none

/-- 'x[:]' of an array in memory. -/
def sliceA (t : TypeId) : V → Option V
  | .sc (.ptr id off) => match P.underlying t with
    | some (.array n elem) => match P.info? elem with
      | some _ => some (.sc (.slc id off n n))
      | none => none
    | _ => none
  | _ => none

def intOp (op : BinOp) (k : IntKind) (a b : Int) : Option SV :=
  match op with
  | .add => some (.int k (k.wrap (a + b)))
  | .sub => some (.int k (k.wrap (a - b)))
  | .mul => some (.int k (k.wrap (a * b)))
  | .quo => if decide (b = 0) then none else some (.int k (k.wrap (a.tdiv b)))
  | .rem => if decide (b = 0) then none else some (.int k (a.tmod b))
  | .eql => some (.bool (a == b))
  | .neq => some (.bool (a != b))
  | .lss => some (.bool (decide (a < b)))
  | .leq => some (.bool (decide (a ≤ b)))
  | .gtr => some (.bool (decide (a > b)))
  | .geq => some (.bool (decide (a ≥ b)))
  | _ => none

def arithCode : BinOp → Option Nat
  | .add => some 0
  | .sub => some 1
  | .mul => some 2
  | .quo => some 3
  | _ => none
def opOf (c : Nat) : BinOp :=
  match c with
  | 0 => .add
  | 1 => .sub
  | 2 => .mul
  | _ => .quo
def kindOf (c : Nat) : FloatKind :=
  match c with
  | 0 => .f32
  | _ => .f64

/-- A comparison's code, and whether the answer is turned round. -/
def cmpCode : BinOp → Option (Nat × Bool)
  | .eql => some (0, false)
  | .neq => some (0, true)
  | .lss => some (1, false)
  | .leq => some (2, false)
  | .gtr => some (3, false)
  | .geq => some (4, false)
  | _ => none
def cmpOf (c : Nat) : BinOp :=
  match c with
  | 0 => .eql
  | 1 => .lss
  | 2 => .leq
  | 3 => .gtr
  | _ => .geq

/-- The unsigned integers of a float's width. -/
def uk : FloatKind → IntKind
  | .f32 => .u32
  | .f64 => .u64
/-- The mask that strikes the sign: by 'and', by 'and not'. -/
def keepMask : FloatKind → Nat
  | .f32 => 2147483647
  | .f64 => 9223372036854775807
def signMask : FloatKind → Nat
  | .f32 => 2147483648
  | .f64 => 9223372036854775808

def binA (op : BinOp) (t : TypeId) (x y : V) (st : St) (K : V → Bool → Facts → Bool) : Bool :=
  match x, y with
  | .sc (.flt k a), .sc (.flt k' b) =>
    if Nat.beq (fk k) (fk k') then
      match arithCode op with
      | some c => forceNat (c + 4 * fk k) fun c => K (.sc (.flt k (.bin c a b))) true st.facts
      | none => match cmpCode op with
        | some (c, turn) => ask (.cmp c k a b) st.facts fun r fs => forceSV (.bool (r != turn)) fun s => K (.sc s) true fs
        | none => false
    else false
  | .sc (.int k a), .sc (.int k' b) =>
    if decide (k = k') then
      match intOp op k a b with
      | some s => forceSV s fun s => K (.sc s) true st.facts
      | none => false
    else false
  | .sc (.bits k a), .sc (.bits k' b) =>
    if Nat.beq (fk k) (fk k') then
      match op with
      | .eql => ask (.cmp 0 k a a) st.facts fun ta fs => ask (.cmp 0 k b b) fs fun tb fs =>
        match ta, tb with
        | true, true => ask (.same a b) fs fun r fs => forceSV (.bool r) fun s => K (.sc s) true fs
        | true, false => K (.sc (.bool false)) true fs
        | false, true => K (.sc (.bool false)) true fs
        | false, false => false
      | _ => false
    else false
  | .sc (.bits k a), .sc (.int k' (.ofNat n)) =>
    if decide (uk k = k') then
      match op with
      | .and => if Nat.beq n (keepMask k) then K (.sc (.bits k (.abs k a))) true st.facts else false
      | .andNot => if Nat.beq n (signMask k) then K (.sc (.bits k (.abs k a))) true st.facts else false
      | _ => false
    else false
  | .sc (.bool a), .sc (.bool b) => match P.underlying t with
    | some .bool => match op with
      | .eql => forceSV (.bool (a == b)) fun s => K (.sc s) true st.facts
      | .neq => forceSV (.bool (a != b)) fun s => K (.sc s) true st.facts
      | _ => false
    | _ => false
  | _, _ => false

def convertA (src dst : TypeId) (x : V) (fs : Facts) : Option V :=
  match P.underlying src, P.underlying dst, x with
  | some _, some (.int k), .sc (.int _ n) => some (.sc (.int k (k.wrap n)))
  | some _, some (.float k), .sc (.int _ n) => some (.sc (.flt k (.lit k (k.nearest n))))
  | some _, some (.float .f32), .sc (.flt .f32 t) => some (.sc (.flt .f32 t))
  | some _, some (.float .f64), .sc (.flt .f64 t) => some (.sc (.flt .f64 t))
  | some _, some (.float .f64), .sc (.flt .f32 t) => some (.sc (.flt .f64 (.wide t)))
  | some _, some (.float .f32), .sc (.flt .f64 t) => match look (.fits t) fs with
    | some true => some (.sc (.flt .f32 (.narrow t)))
    | _ => match t with
      | .lit .f64 b => if fitsC (canon .f64 b) then some (.sc (.flt .f32 (.narrow t))) else none
      | _ => none
  | _, _, _ => none

def unA (op : UnOp) : V → Option V
  | .sc (.bool b) => match op with
    | .not => some (.sc (.bool !b))
    | _ => none
  | .sc (.flt k t) => match op with
    | .neg => some (.sc (.flt k (.neg k t)))
    | _ => none
  | .sc (.int k n) => match op with
    | .neg => some (.sc (.int k (k.wrap (0 - n))))
    | _ => none
  | _ => none

/-- A value that hangs on atoms. -/
inductive Tree where
  | leaf (v : V)
  | node (a : Atom) (l r : Tree)

/-- What a function that is known beforehand gives. -/
inductive Known where
  | val (v : V)
  | test (a : Atom)
  | tree (t : Tree)

def treeA : Tree → Facts → (V → Facts → Bool) → Bool
  | .leaf v, fs, K => K v fs
  | .node a l r, fs, K => ask a fs fun b fs => match b with
    | true => treeA l fs K
    | false => treeA r fs K

def noPtrS : SV → Bool
  | .ptr .. | .slc .. => false
  | _ => true
def noPtr : V → Bool
  | .sc s => noPtrS s
  | .agg l => l.all noPtrS
  | .tup a b => noPtr a && noPtr b
  | .other _ => false

/-- An argument as the callee sees it: what it points to is handed with it. -/
def handOver (heap : List (List SV)) : List V → List (List SV) → (List V → List (List SV) → Bool) → Bool
  | [], bs, K => K [] bs
  | v :: r, bs, K =>
    match v with
    | .sc (.slc id off len cap) => match heap[id]? with
      | some cells => if cells.all noPtrS then handOver heap r (bs ++ [cells]) fun vs hs => K (.sc (.slc bs.length off len cap) :: vs) hs else false
      | none => false
    | v => if noPtr v then handOver heap r bs fun vs hs => K (v :: vs) hs else false

def resultA (heap : List (List SV)) (tmps : List V) : ResultVar → Option V
  | .tmp t => some (tmps.getD t undefV)
  | .cell a t => loadA P heap t (tmps.getD a undefV)

def resultsA (heap : List (List SV)) (tmps : List V) : List ResultVar → Option V
  | [r] => resultA P heap tmps r
  | [r, s] => match resultA P heap tmps r, resultA P heap tmps s with
    | some a, some b => some (.tup a b)
    | _, _ => none
  | _ => none

def evParts (tmps : List V) : List (Nat × Operand) → List (Nat × V)
  | [] => []
  | (i, x) :: r => (i, evA tmps x) :: evParts tmps r

variable (S : FuncId → List V → Option Known)

/-- One operation. 'call': how a call is run. 'K' takes the value, the state behind it. -/
def opA (call : FuncId → List V → St → (V → Facts → Bool) → Bool) (o : Op) (tmps : List V) (st : St) (K : V → St → Bool) : Bool :=
  match o with
  | .move x | .assign x => forceV (evA tmps x) fun v => K v st
  | .pick c a b => match evA tmps c with
    | .sc (.bool true) => forceV (evA tmps a) fun v => K v st
    | .sc (.bool false) => forceV (evA tmps b) fun v => K v st
    | _ => false
  | .alloc t => match zeroA P t with
    | some l => forceSL l fun l => forceL (st.heap ++ [l]) fun h => forceNat st.heap.length fun n => K (.sc (.ptr n 0)) { st with heap := h }
    | none => false
  | .box _ x => match cellsV (evA tmps x) with
    | some l => forceSL l fun l => forceL (st.heap ++ [l]) fun h => forceNat st.heap.length fun n => K (.sc (.ptr n 0)) { st with heap := h }
    | none => false
  | .build t parts => match buildA P t (evParts tmps parts.toList) with
    | some v => forceV v fun v => K v st
    | none => false
  | .buildSlice t n parts => match buildSliceA P t n (evParts tmps parts.toList) with
    | some l => forceSL l fun l => forceL (st.heap ++ [l]) fun h => forceNat st.heap.length fun i => K (.sc (.slc i 0 n n)) { st with heap := h }
    | none => false
  | .load t x => match loadA P st.heap t (evA tmps x) with
    | some v => forceV v fun v => K v st
    | none => false
  | .binOp op t x y _ => binA P op t (evA tmps x) (evA tmps y) st fun v _ fs => K v { st with facts := fs }
  | .unOp op _ x => match unA op (evA tmps x) with
    | some v => forceV v fun v => K v st
    | none => false
  | .convert src dst x => match convertA P src dst (evA tmps x) st.facts with
    | some v => forceV v fun v => K v st
    | none => false
  | .indexAddr t x i => match indexAddrA P t (evA tmps x) (evA tmps i) with
    | some v => forceV v fun v => K v st
    | none => false
  | .index t x i => match indexA P t (evA tmps x) (evA tmps i) with
    | some v => forceV v fun v => K v st
    | none => false
  | .slice t x none none none => match sliceA P t (evA tmps x) with
    | some v => forceV v fun v => K v st
    | none => false
  | .extract x i => match evA tmps x with
    | .tup a b => match i with
      | 0 => K a st
      | 1 => K b st
      | _ => false
    | _ => false
  | .call c => match c.callee with
    | .value (.func f) => match S f (c.args.toList.map (evA tmps)) with
      | some (.val v) => forceV v fun v => K v st
      | some (.test a) => ask a st.facts fun r fs => forceSV (.bool r) fun s => K (.sc s) { st with facts := fs }
      | some (.tree t) => treeA t st.facts fun v fs => forceV v fun v => K v { st with facts := fs }
      | none => call f (c.args.toList.map (evA tmps)) st fun v fs => K v { st with facts := fs }
    | .builtin .min => match c.args.toList with
      | [x, y] => match evA tmps x, evA tmps y with
        | .sc (.flt k a), .sc (.flt k' b) => if Nat.beq (fk k) (fk k') then forceNat (2 * fk k) fun c => K (.sc (.flt k (.mm c a b))) st else false
        | _, _ => false
      | _ => false
    | .builtin .max => match c.args.toList with
      | [x, y] => match evA tmps x, evA tmps y with
        | .sc (.flt k a), .sc (.flt k' b) => if Nat.beq (fk k) (fk k') then forceNat (2 * fk k + 1) fun c => K (.sc (.flt k (.mm c a b))) st else false
        | _, _ => false
      | _ => false
    | .builtin .len => match c.args.toList, c.argTypes.toList with
      | [x], [t] => match P.underlying t, evA tmps x with
        | some (.slice _), .sc (.slc _ _ len _) => forceSV (.int .i64 len) fun s => K (.sc s) st
        | some (.array n _), _ => forceSV (.int .i64 n) fun s => K (.sc s) st
        | _, _ => false
      | _, _ => false
    | _ => false
  | _ => false

def isStore : Op → Bool
  | .store .. => true
  | _ => false

def storeOp (o : Op) (tmps : List V) (st : St) (K : St → Bool) : Bool :=
  match o with
  | .store t a x => match storeA P st.heap st.old t (evA tmps a) (evA tmps x) with
    | some h => forceL h fun h => K { st with heap := h }
    | none => false
  | _ => false

/-- Is the operation carried out? -/
def wantedA (ops : Array Oper) (o : Oper) (tmps : List V) : Option Bool :=
  match o.guard with
  | none => some true
  | some (j, want) => match (ops[j]?).bind (·.dst) with
    | some t => match tmps.getD t undefV with
      | .sc (.bool b) => some (b == want)
      | .other (.tuple _) => some false
      | _ => none
    | none => none

def opsA (call : FuncId → List V → St → (V → Facts → Bool) → Bool) (ops : Array Oper) : List Oper → List V → St → (List V → St → Bool) → Bool
  | [], tmps, st, K => K tmps st
  | o :: r, tmps, st, K =>
    match wantedA ops o tmps with
    | some true =>
      if isStore o.op then storeOp P o.op tmps st fun st => forceL (put tmps o.dst undefV) fun tmps => opsA call ops r tmps st K
      else opA P S call o.op tmps st fun v st => forceL (put tmps o.dst v) fun tmps => opsA call ops r tmps st K
    | some false => forceL (put tmps o.dst undefV) fun tmps => opsA call ops r tmps st K
    | none => false

end

/-- How a piece of code is left. -/
inductive XE where
  | normal
  | exit (id : Nat)
  | ret

/-! ### A region that draws its order: computing, then stores -/
def edge (o : Oper) (i : Nat) : Bool := o.after.any fun e => Region.binds .any e && Nat.beq e.on i

/-- 'i' is carried out before 'y' in whatever order. -/
def anc (ops : Array Oper) : Nat → Oper → Nat → Bool
  | 0, y, i => edge y i
  | n + 1, y, i => edge y i || y.after.any fun e => Region.binds .any e && match ops[e.on]? with
    | some z => anc ops n z i
    | none => false

def leads (l : List Oper) : Nat :=
  match l with
  | [] => 0
  | o :: r => if isStore o.op then 0 else leads r + 1

def optBeq : Option Nat → Option Nat → Bool
  | some a, some b => Nat.beq a b
  | _, _ => false

/-- Two operations, 'i' ahead of 'j' in the text: they write apart; what one writes and the other looks at is ordered; behind the first store all is in the order of the text. -/
def isEager : Op → Bool
  | .move _ | .assign _ | .extract .. => true
  | _ => false

def pairOK (ops : Array Oper) (i : Nat) (xtail tail : Bool) (x y : Oper) : Bool :=
  !optBeq x.dst y.dst &&
  ((y.looksAt ops).all fun t => !optBeq x.dst (some t) || edge y i) &&
  ((x.looksAt ops).all fun t => !optBeq y.dst (some t) || edge y i) &&
  (!tail || anc ops 3 y i || (!xtail && isEager x.op && x.after.all fun e => !Region.binds .any e || anc ops 3 y e.on))

def pairsFrom (ops : Array Oper) (n i : Nat) (x : Oper) : Nat → List Oper → Bool
  | _, [] => true
  | j, y :: r => pairOK ops i (Nat.ble n i) (Nat.ble n j) x y && pairsFrom ops n i x (j + 1) r

def allPairs (ops : Array Oper) (n : Nat) : Nat → List Oper → Bool
  | _, [] => true
  | i, x :: r => pairsFrom ops n i x (i + 1) r && allPairs ops n (i + 1) r

def backFrom : Nat → List Oper → Bool
  | _, [] => true
  | i, o :: r => (o.after.all fun e => !Region.binds .any e || Nat.blt e.on i) && backFrom (i + 1) r

def drawOK (ops : Array Oper) : Bool :=
  forceNat (leads ops.toList) fun n => allPairs ops n 0 ops.toList && backFrom 0 ops.toList && Region.noSelect ops

section
variable (P : Program) (S : FuncId → List V → Option Known)

abbrev Run := Code → List V → St → (XE → List V → St → Bool) → Bool

def callA (rec : Run) (f : FuncId) (args : List V) (st : St) (K : V → Facts → Bool) : Bool :=
  match P.funcs[f]? with
  | some fn => match fn.body with
    | some c => handOver st.heap args [] fun vs hs =>
        forceL (vs ++ List.replicate (fn.ntmps - vs.length) undefV) fun tmps =>
        rec c tmps { facts := st.facts, heap := hs, old := hs.length } fun e t s =>
          match e with
          | .exit _ => false
          | _ => match resultsA P s.heap t fn.results.toList with
            | some v => if noPtr v then forceV v fun v => K v s.facts else false
            | none => false
    | none => false
  | none => false

def stepA (rec : Run) (c : Code) (tmps : List V) (st : St) (K : XE → List V → St → Bool) : Bool :=
  match c with
  | .skip | .label _ => K .normal tmps st
  | .seq a b => rec a tmps st fun e t s => match e with
    | .normal => rec b t s K
    | e => K e t s
  | .cond x a b => match evA tmps x with
    | .sc (.bool true) => rec a tmps st K
    | .sc (.bool false) => rec b tmps st K
    | _ => false
  | .block id b => rec b tmps st fun e t s => match e with
    | .exit i => if Nat.beq i id then K .normal t s else K (.exit i) t s
    | e => K e t s
  | .loop b => rec b tmps st fun e t s => match e with
    | .normal => rec (.loop b) t s K
    | e => K e t s
  | .scope b => rec b tmps st K
  | .exit id => K (.exit id) tmps st
  | .ret => K .ret tmps st
  | .region _ ops draw =>
    if draw then (if drawOK ops then opsA P S (callA P rec) ops ops.toList tmps st (K .normal) else false)
    else opsA P S (callA P rec) ops ops.toList tmps st (K .normal)
  | _ => false

def codeA : Nat → Run
  | 0 => fun _ _ _ _ => false
  | n + 1 => stepA P S (codeA n)

/-- A call of function 'f': 'K' is asked of the value, behind every way. -/
def runA (n : Nat) (f : FuncId) (args : List V) (fs : Facts) (K : V → Facts → Bool) : Bool :=
  callA P (codeA P S n) f args { facts := fs, heap := [], old := 0 } K

end
end Go.Sx
