/-
  By an AI agent: a part of the proof of this claim; what is proved stands in the text YtjinlihckmgioaaGreatDoorMain.
-/
import Derived.OrdersIn
import Derived.RangeFuncNested
set_option linter.unusedVariables false
set_option linter.unusedSimpArgs false
set_option linter.unusedSectionVars false
set_option linter.unusedVariables false
namespace Go.Ev
open Go
noncomputable section

/-- A tree of what stands at numbers. -/
inductive Tr (α : Type) where
  | leaf
  | node (v : Option α) (l r : Tr α)
deriving Inhabited

def Tr.get {α : Type} (t : Tr α) : Nat → Option α :=
  @Tr.rec α (fun _ => Nat → Option α) (fun _ => none)
    (fun v l r gl gr n => @Nat.rec (fun _ => Option α) v (fun k _ => @Bool.rec (fun _ => Option α) (gr (Nat.div k 2)) (gl (Nat.div k 2)) (Nat.beq (Nat.mod k 2) 0)) n) t
def Tr.single {α : Type} (x : Option α) (f : Nat) : Nat → Tr α :=
  @Nat.rec (fun _ => Nat → Tr α) (fun _ => .leaf)
    (fun _ ih n => @Nat.rec (fun _ => Tr α) (.node x .leaf .leaf) (fun k _ => @Bool.rec (fun _ => Tr α) (.node none .leaf (ih (Nat.div k 2))) (.node none (ih (Nat.div k 2)) .leaf) (Nat.beq (Nat.mod k 2) 0)) n) f
/-- A tree with another value, not deeper than f. -/
def Tr.setT {α : Type} (t : Tr α) : Nat → Nat → Option α → Tr α :=
  @Tr.rec α (fun _ => Nat → Nat → Option α → Tr α) (fun f n x => Tr.single x f n)
    (fun v l r gl gr f n x => @Nat.rec (fun _ => Tr α) (.node v l r) (fun f' _ => @Nat.rec (fun _ => Tr α) (.node x l r) (fun k _ => @Bool.rec (fun _ => Tr α) (.node v l (gr f' (Nat.div k 2) x)) (.node v (gl f' (Nat.div k 2) x) r) (Nat.beq (Nat.mod k 2) 0)) n) f) t
def Tr.set {α : Type} (f : Nat) (t : Tr α) (n : Nat) (x : Option α) : Tr α := t.setT f n x

/-- The depth of every tree here: numbers below 2^40 - 1. -/
def dep : Nat := 40
abbrev Tr.put {α : Type} (t : Tr α) (n : Nat) (x : α) : Tr α := Tr.set dep t n (some x)
def Tr.puts {α : Type} (t : Tr α) (n : Nat) (l : List α) : Tr α :=
  @List.rec α (fun _ => Tr α → Nat → Tr α) (fun t _ => t) (fun x _ ih t n => ih (Tr.set dep t n (some x)) (n + 1)) l t n
def Tr.ofList {α : Type} (xs : List α) : Tr α := Tr.leaf.puts 0 xs

/-- What is not known: it may stand for any value. -/
def psn : Value := .chan none

structure Blk where
  cells : Tr Value
  size : Nat
  elem : TypeId
  fam : Nat

/-- Code as it is walked here: what is not walked is 'bad'. -/
inductive Cd where
  | skip | ret | bad
  | exit (i : Nat)
  | seq (a b : Cd)
  | cond (c : Operand) (a b : Cd)
  | block (i : Nat) (b : Cd)
  | loop (b : Cd)
  | scope (b : Cd)
  | region (ops : List Oper) (n : Nat)
  | drawn (ops : List Oper) (n : Nat) (ps : List (Nat × Nat))
  | rangeFunc (g : Operand) (ps : List Tmp) (assign body : Cd)

inductive Jm where
  | ret
  | exit (i : Nat)
def Jm.code : Jm → Code
  | .ret => .ret
  | .exit i => .exit i

structure Lp where
  tm : Tr Value
  nt : Nat
  params : List Tmp
  assign : Cd
  body : Cd
  state : LoopState
  pending : Option Jm

inductive Ob where
  | cells (b : Blk)
  | map (es : List (Value × Value)) 
  | iter (s : ByteArray) (pos : Nat)
  | loop (l : Lp)

structure Hp where
  obs : Tr Ob
  cnt : Nat
  fams : Tr (List (Nat × Nat))

structure St where
  tm : Tr Value
  nt : Nat
  ro : Option Nat
  hp : Hp

structure TD where
  desc : TypeDesc
  size : Nat
  bytes : Nat
  zero : List Value
  eqs : Bool

/-- Of a kind of operation: 0: it neither looks at the heap nor turns it; 1: it looks at it; 2: it lays one block; 3: the others. -/
def clOf (ty : Tr TD) : Op → Nat
  | .move _ | .assign _ | .pick _ _ _ | .build _ _ | .nilCheck _ | .binOp _ _ _ _ _ | .unOp _ _ _ | .makeFunc _ _ _ | .slice _ _ _ _ _ | .fieldAddr _ _ _ | .field _ _ _ | .indexAddr _ _ _ | .index _ _ _ | .extract _ _ => 0
  | .load _ _ => 1
  | .convert _ d _ => match ty.get d with
    | some td => match td.desc with
      | .int _ | .string => 1
      | _ => 3
    | none => 3
  | .alloc _ | .box _ _ | .buildSlice _ _ _ | .makeSlice _ _ _ | .range _ _ => 2
  | .call c => match c.callee with
    | .builtin .len | .builtin .cap | .builtin .min | .builtin .max => 0
    | _ => 3
  | _ => 3

def maskOf (M : List Nat) (o : Oper) : Nat :=
  o.after.toList.foldl (fun acc e => match Region.binds .any e with | true => Nat.lor acc (Nat.lor (Nat.pow 2 e.on) (M.getD e.on 0)) | false => acc) 0
def masks : List Oper → List Nat → List Nat
  | [], M => M
  | o :: r, M => masks r (M ++ [maskOf M o])
/-- i comes ahead of j in every order. -/
def ordB (M : List Nat) (i j : Nat) : Bool := Nat.testBit (M.getD j 0) i

/-- Two operations of a region, i ahead of j in the text, bear one another in every order. -/
def pairOk (ty : Tr TD) (M : List Nat) (ops : Array Oper) (i j : Nat) (p o : Oper) : Bool :=
  (match p.dst with | some t => (match o.dst with | some u => !Nat.beq t u | none => true) && (!(o.looksAt ops).contains t || ordB M i j) | none => true) &&
  (match o.dst with | some t => !(p.looksAt ops).contains t || ordB M i j | none => true) &&
  (match clOf ty p.op, clOf ty o.op with
   | 3, 3 | 2, 3 => ordB M i j
   | _, _ => true)
def opOk (ty : Tr TD) (M : List Nat) (ops : Array Oper) (j : Nat) (o : Oper) : Bool :=
  o.after.toList.all (fun e => match Region.binds .any e with | true => Nat.blt e.on j | false => true) &&
  (List.range j).all fun i => match ops[i]? with | some p => pairOk ty M ops i j p o | none => true
def regOk (ty : Tr TD) (ops : Array Oper) : Bool :=
  (List.range ops.size).all fun j => match ops[j]? with | some o => opOk ty (masks ops.toList []) ops j o | none => true
def pairsOf (ty : Tr TD) (ops : Array Oper) : List (Nat × Nat) :=
  (List.range ops.size).flatMap fun j => (List.range ops.size).filterMap fun i => match ops[i]?, ops[j]? with
    | some p, some o => match clOf ty p.op, clOf ty o.op with
      | 1, 3 => match ordB (masks ops.toList []) i j || ordB (masks ops.toList []) j i with
        | true => none
        | false => some (i, j)
      | _, _ => none
    | _, _ => none

def toCd (ty : Tr TD) : Code → Cd
  | .skip => .skip
  | .ret => .ret
  | .exit i => .exit i
  | .seq a b => .seq (toCd ty a) (toCd ty b)
  | .cond c a b => .cond c (toCd ty a) (toCd ty b)
  | .block i b => .block i (toCd ty b)
  | .loop b => .loop (toCd ty b)
  | .scope b => .scope (toCd ty b)
  | .label _ => .skip
  | .region _ ops false => .region ops.toList ops.size
  | .region _ ops true => match regOk ty ops with
    | true => .drawn ops.toList ops.size (pairsOf ty ops)
    | false => .bad
  | .rangeFunc g ps assign body => .rangeFunc g ps.toList (toCd ty assign) (toCd ty body)
  | _ => .bad

structure Fd where
  ntmps : Nat
  results : List ResultVar
  body : Cd
def mkFd (ty : Tr TD) (f : Func) : Fd := { ntmps := f.ntmps, results := f.results.toList, body := match f.body with | some c => toCd ty c | none => .bad }

structure Env where
  ty : Tr TD
  fn : Tr Fd
  ex : Tr Nat

abbrev E (α : Type) := Except Nat α
def bnd {α β : Type} (x : E α) (f : α → E β) : E β := @Except.rec Nat α (fun _ => (α → E β) → E β) (fun e _ => .error e) (fun a f => f a) x f
def opt {α : Type} (n : Nat) (o : Option α) : E α := @Option.rec α (fun _ => E α) (.error n) (fun a => .ok a) o
def chk {α : Type} (n : Nat) (b : Bool) (x : E α) : E α := @Bool.rec (fun _ => E α) (.error n) x b

def plain1 : Value → Bool
  | .bool _ | .int _ _ | .float _ _ | .string _ | .pointer none | .map none | .nilFunc | .nilIface => true
  | .slice none _ _ => true
  | .func (.func _) f c => f.isEmpty && c.isEmpty
  | _ => false
def plainV : Value → Bool
  | .agg cs => cs.toList.all plain1
  | v => plain1 v

def evo (tm : Tr Value) : Operand → Value
  | .tmp t => match tm.get t with | some v => v | none => undef
  | .const v => match plainV v with | true => v | false => psn
  | .global _ => psn
  | .func f => .func (.func f) #[] #[]

/-- The cells of a value that is known. -/
def vcells : Value → E (List Value)
  | .tuple _ => .error 1
  | .chan _ => .error 2
  | .agg cs => .ok cs.toList
  | v => .ok [v]

/-- May it stand in one cell? -/
def okc : Value → Bool
  | .tuple _ | .chan _ | .agg _ => false
  | _ => true

def maxCnt : Nat := 1000000000

def rdc (t : Tr Value) (o n : Nat) : List Value :=
  @Nat.rec (fun _ => Nat → List Value) (fun _ => []) (fun _ ih o => (@Option.rec Value (fun _ => Value) psn (fun v => v) (t.get o)) :: ih (o + 1)) n o

def getBlk (h : Hp) (b : Nat) : E Blk := match h.obs.get b with | some (.cells k) => .ok k | _ => .error 3

def rd (h : Hp) (b o n : Nat) : E (List Value) :=
  bnd (getBlk h b) fun k => chk 4 (Nat.ble (o + n) k.size) (.ok (rdc k.cells o n))

/-- Of a family, the longest first: those that are longer than a place, but for one, are gone. -/
def cull (obs : Tr Ob) (b lim : Nat) : List (Nat × Nat) → Tr Ob × List (Nat × Nat)
  | [] => (obs, [])
  | (c, s) :: r =>
    match Nat.ble s lim with
    | true => (obs, (c, s) :: r)
    | false => match Nat.beq c b with
      | true => cull obs b lim r
      | false => cull (Tr.set dep obs c none) b lim r

def wrF (h : Hp) (b o : Nat) (k k' : Blk) : E Hp :=
  match k.fam with
  | 0 => .ok { h with obs := h.obs.put b (.cells k') }
  | f + 1 =>
    match h.fams.get f with
    | none => .error 7
    | some st => .ok { h with obs := (cull h.obs b o st).1.put b (.cells k'), fams := h.fams.put f ((b, k.size) :: (cull h.obs b o st).2) }

def wr (h : Hp) (b o : Nat) (vs : List Value) : E Hp :=
  bnd (getBlk h b) fun k =>
    chk 5 (Nat.ble (o + vs.length) k.size) <| chk 6 (vs.all okc) <|
      match vs with
      | [] => .ok h
      | _ :: _ => wrF h b o k { k with cells := k.cells.puts o vs }

def bigSize : Nat := 100000000

/-- A new block at a number that is free. -/
def newAt (h : Hp) (id : Nat) (ob : Ob) : Hp := { h with obs := h.obs.put id ob }
def mkBlk (vs : List Value) (t : TypeId) : E Ob :=
  chk 9 (vs.all okc) (chk 10 (Nat.blt vs.length bigSize) (.ok (.cells { cells := Tr.ofList vs, size := vs.length, elem := t, fam := 0 })))

def splice (cs : List Value) (off : Nat) (vs : List Value) : List Value := cs.take off ++ vs ++ cs.drop (off + vs.length)

def fillC (place : Nat → Option (Nat × Nat)) (cs : List Value) : List (Nat × Value) → E (List Value)
  | [] => .ok cs
  | (i, v) :: r =>
    bnd (vcells v) fun vs =>
    match place i with
    | none => .error 11
    | some (off, size) => chk 12 (Nat.beq vs.length size && Nat.ble (off + size) cs.length) (fillC place (splice cs off vs) r)

def isAg : TypeDesc → Bool
  | .struct _ | .array _ _ => true
  | _ => false

def ldv (d : TD) (h : Hp) (b o : Nat) : E Value :=
  match isAg d.desc with
  | true => bnd (rd h b o d.size) fun cs => .ok (.agg cs.toArray)
  | false => bnd (rd h b o 1) fun cs => match cs with | [v] => .ok v | _ => .error 13

def repl (zero : List Value) : Nat → List Value
  | 0 => []
  | n + 1 => zero ++ repl zero n

def partC (d : TD) (cs : List Value) (off : Nat) : E Value :=
  match isAg d.desc with
  | true => chk 14 (Nat.ble (off + d.size) cs.length) (.ok (.agg ((cs.drop off).take d.size).toArray))
  | false => opt 15 (cs.drop off).head?

def asN (n : Nat) : Value → E Nat
  | .int _ (.ofNat k) => .ok k
  | _ => .error n

def slBound (x : Value) (y : Nat) : E Nat := bnd (asN 16 x) fun i => chk 17 (Nat.ble i y) (.ok i)

def slBounds (len cap : Nat) (lo hi mx : Option Value) : E (Nat × Nat × Nat) :=
  bnd (match mx with | some v => slBound v cap | none => .ok cap) fun m =>
  bnd (match hi with | some v => slBound v m | none => (match mx with | none => chk 18 (Nat.ble len m) (.ok len) | some _ => .error 18)) fun h =>
  bnd (match lo with | some v => slBound v h | none => .ok 0) fun l => .ok (l, h, m)

def pureOf (n : Nat) : Sem Value → E Value
  | .pure v => .ok v
  | _ => .error n


def kid : IntKind → Nat
  | .i8 => 0 | .i16 => 1 | .i32 => 2 | .i64 => 3 | .u8 => 4 | .u16 => 5 | .u32 => 6 | .u64 => 7
def sameK (a b : IntKind) : Bool := Nat.beq (kid a) (kid b)
/-- Below it a number of the kind stands for itself; below it, too, its negative less one (0: the kind has no signs). -/
def limP : IntKind → Nat
  | .i8 => 128 | .i16 => 32768 | .i32 => 2147483648 | .i64 => 9223372036854775808 | .u8 => 256 | .u16 => 65536 | .u32 => 4294967296 | .u64 => 18446744073709551616
def limN : IntKind → Nat
  | .i8 => 128 | .i16 => 32768 | .i32 => 2147483648 | .i64 => 9223372036854775808 | _ => 0
def wrapF (k : IntKind) (n : Int) : Int :=
  match n with
  | .ofNat m => match Nat.blt m (limP k) with | true => .ofNat m | false => k.wrap (.ofNat m)
  | .negSucc m => match Nat.blt m (limN k) with | true => .negSucc m | false => k.wrap (.negSucc m)
def addF : Int → Int → Int
  | .ofNat a, .ofNat b => .ofNat (Nat.add a b)
  | a, b => a + b
def subF : Int → Int → Int
  | .ofNat a, .ofNat b => match Nat.ble b a with | true => .ofNat (Nat.sub a b) | false => .negSucc (Nat.pred (Nat.sub b a))
  | a, b => a - b
def mulF : Int → Int → Int
  | .ofNat a, .ofNat b => .ofNat (Nat.mul a b)
  | a, b => a * b
def ltF : Int → Int → Bool
  | .ofNat a, .ofNat b => Nat.blt a b
  | .negSucc _, .ofNat _ => true
  | .ofNat _, .negSucc _ => false
  | .negSucc a, .negSucc b => Nat.blt b a
def eqF : Int → Int → Bool
  | .ofNat a, .ofNat b => Nat.beq a b
  | .negSucc a, .negSucc b => Nat.beq a b
  | _, _ => false
def intF (op : BinOp) (k : IntKind) (a b : Int) : E Value :=
  match op with
  | .add => .ok (.int k (wrapF k (addF a b)))
  | .sub => .ok (.int k (wrapF k (subF a b)))
  | .mul => .ok (.int k (wrapF k (mulF a b)))
  | .lss => .ok (.bool (ltF a b))
  | .gtr => .ok (.bool (ltF b a))
  | .leq => .ok (.bool (!ltF b a))
  | .geq => .ok (.bool (!ltF a b))
  | .eql => .ok (.bool (eqF a b))
  | .neq => .ok (.bool (!eqF a b))
  | .quo => match a, b with
    | .ofNat x, .ofNat y => (match Nat.beq y 0 with | true => .error 23 | false => .ok (.int k (wrapF k (.ofNat (Nat.div x y)))))
    | a, b => pureOf 23 (Op.intDiv .quo k a b)
  | .rem => match a, b with
    | .ofNat x, .ofNat y => (match Nat.beq y 0 with | true => .error 23 | false => .ok (.int k (.ofNat (Nat.mod x y))))
    | a, b => pureOf 23 (Op.intDiv .rem k a b)
  | .and => match a, b with
    | .ofNat x, .ofNat y => (match Nat.blt x (limP k) && Nat.blt y (limP k) with | true => .ok (.int k (.ofNat (Nat.land x y))) | false => pureOf 24 (Op.intBits .and k (.ofNat x) (.ofNat y)))
    | a, b => pureOf 24 (Op.intBits .and k a b)
  | .or => match a, b with
    | .ofNat x, .ofNat y => (match Nat.blt x (limP k) && Nat.blt y (limP k) with | true => .ok (.int k (.ofNat (Nat.lor x y))) | false => pureOf 24 (Op.intBits .or k (.ofNat x) (.ofNat y)))
    | a, b => pureOf 24 (Op.intBits .or k a b)
  | .xor => pureOf 24 (Op.intBits .xor k a b)
  | .andNot => pureOf 24 (Op.intBits .andNot k a b)
  | .shl => match a, b with
    | .ofNat x, .ofNat y => (match Nat.blt y 64 && Nat.blt (Nat.mul x (Nat.pow 2 y)) (limP k) with | true => .ok (.int k (.ofNat (Nat.mul x (Nat.pow 2 y)))) | false => pureOf 20 (Op.shift .shl k (.ofNat x) .i64 (.ofNat y)))
    | a, b => pureOf 20 (Op.shift .shl k a .i64 b)
  | .shr => match a, b with
    | .ofNat x, .ofNat y => (match Nat.blt y (limP k |>.log2) with | true => .ok (.int k (.ofNat (Nat.div x (Nat.pow 2 y)))) | false => pureOf 20 (Op.shift .shr k (.ofNat x) .i64 (.ofNat y)))
    | a, b => pureOf 20 (Op.shift .shr k a .i64 b)

def isShift : BinOp → Bool | .shl | .shr => true | _ => false
def bin2 (d : TypeDesc) (op : BinOp) (x y : Value) : E Value :=
  match op, d, x, y with
  | .eql, .bool, .bool a, .bool b => .ok (.bool (a == b))
  | .neq, .bool, .bool a, .bool b => .ok (.bool (!(a == b)))
  | .eql, .slice _, .slice a _ _, .slice none _ _ => .ok (.bool a.isNone)
  | .neq, .slice _, .slice a _ _, .slice none _ _ => .ok (.bool (!a.isNone))
  | .eql, .pointer _, .pointer a, .pointer none => .ok (.bool a.isNone)
  | .neq, .pointer _, .pointer a, .pointer none => .ok (.bool (!a.isNone))
  | _, _, _, _ => .error 27
/-- Equality of values of one cell. -/
def eq1 : TypeDesc → Option Value → Option Value → E Bool
  | .bool, some (.bool a), some (.bool b) => .ok (a == b)
  | .int _, some (.int k a), some (.int k' b) => chk 190 (sameK k k') (.ok (eqF a b))
  | .string, some (.string a), some (.string b) => .ok (a.data.toList == b.data.toList)
  | _, _, _ => .error 191
def eqFs (En : Env) (xs ys : List Value) : List Field → E Bool
  | [] => .ok true
  | f :: r => chk 192 (f.name != "_") <| bnd (opt 193 (En.ty.get f.type)) fun d => bnd (eq1 d.desc xs[f.offset]? ys[f.offset]?) fun b => match b with
    | true => eqFs En xs ys r
    | false => .ok false
def binS (En : Env) (d : TD) (op : BinOp) (x y : Value) : E Value :=
  match d.eqs, d.desc, x, y with
  | true, .struct fs, .agg xs, .agg ys => bnd (eqFs En xs.toList ys.toList fs.toList) fun b => match op with
    | .eql => .ok (.bool b)
    | .neq => .ok (.bool !b)
    | _ => .error 194
  | _, _, _, _ => bin2 d.desc op x y
def bin (En : Env) (t : TypeId) (op : BinOp) (x y : Value) : E Value :=
  match x, y with
  | .int k a, .int k' b =>
    match sameK k k' with
    | true => intF op k a b
    | false => (match isShift op with | true => intF op k a b | false => .error 21)
  | .string a, .string b => pureOf 26 (Op.stringOp op a b)
  | x, y => bnd (opt 19 (En.ty.get t)) fun d => binS En d op x y

/-- A key is looked for among those of a map. -/
def findC (kd : TypeDesc) (k : Value) : List (Value × Value) → E (Option Value)
  | [] => .ok none
  | (k', v) :: r => bnd (eq1 kd (some k) (some k')) fun b => match b with | true => .ok (some v) | false => findC kd k r
def putC (kd : TypeDesc) (k v : Value) : List (Value × Value) → E (List (Value × Value))
  | [] => .ok [(k, v)]
  | (k', v') :: r => bnd (eq1 kd (some k) (some k')) fun b => match b with | true => .ok ((k, v) :: r) | false => bnd (putC kd k v r) fun r' => .ok ((k', v') :: r')
def keyD : TypeDesc → Bool
  | .int _ | .string => true
  | _ => false

inductive Rs where
  | val (v : Value) (h : Hp)
  | enter (f : Nat) (args : List Value) (h : Hp)
  | yld (l : Nat) (args : List Value) (h : Hp)

def lenC (x : Value) : E Nat := match x with
  | .slice _ n _ => .ok n
  | .string s => .ok s.size
  | _ => .error 31
def firstC (h : Hp) (size n : Nat) : Value → E (List Value)
  | .slice (some a) _ _ => rd h a.block a.off (n * size)
  | .slice none _ _ => chk 189 (Nat.beq n 0) (.ok [])
  | .string s => chk 188 (Nat.beq size 1) (.ok ((s.data.toList.take n).map fun b => .int .u8 b.toNat))
  | _ => .error 32

/-- A new row that has grown: it is the first of a family. -/
def grown (h : Hp) (vs : List Value) (t : TypeId) (e n : Nat) : E Rs :=
  chk 33 (vs.all okc) <| chk 34 (Nat.blt vs.length bigSize) <| chk 35 (Nat.blt h.cnt maxCnt) <|
    .ok (.val (.slice (some ⟨h.cnt, 0, some e⟩) n n)
      { obs := h.obs.put h.cnt (.cells { cells := Tr.ofList vs, size := vs.length, elem := t, fam := h.cnt + 1 }), cnt := h.cnt + 1, fams := h.fams.put h.cnt [(h.cnt, vs.length)] })

/-- An append to a row that has grown before: the row goes on, for all that is known. -/
def appF (h : Hp) (a : Addr) (es lim need sz : Nat) (new : List Value) (k : Blk) (f : Nat) : E Rs :=
  match h.fams.get f with
  | none => .error 41
  | some st =>
    .ok (.val (.slice (some ⟨h.cnt, 0, some es⟩) need need)
      { obs := (cull h.obs h.cnt lim st).1.put h.cnt (.cells { cells := k.cells.puts lim new, size := sz, elem := k.elem, fam := f + 1 }), cnt := h.cnt + 1,
        fams := h.fams.put f ((h.cnt, sz) :: (cull h.obs h.cnt lim st).2) })
def appE (e : TD) (et : TypeId) (h : Hp) (a : Addr) (es len need : Nat) (new : List Value) : E Rs :=
  chk 38 (Nat.beq es e.size && Nat.beq a.off 0) <|
  bnd (getBlk h a.block) fun k =>
  chk 39 (new.all okc && Nat.blt h.cnt maxCnt && Nat.beq k.elem et) <|
  match k.fam with
  | 0 => .error 40
  | f + 1 => appF h a es (len * e.size) need (need * e.size) new k f
def appG (e : TD) (et : TypeId) (h : Hp) (base : Option Addr) (len need : Nat) (new : List Value) : E Rs :=
  chk 36 (Nat.ble 1 e.size && Nat.ble e.bytes 100000 && Nat.blt (need * e.bytes) bigSize && Nat.blt (need * e.size) bigSize) <|
  match base with
  | none => chk 37 (Nat.beq len 0) (grown h new et e.size need)
  | some a =>
    bnd (rd h a.block a.off (len * e.size)) fun old =>
    match a.spot with
    | none => grown h (old ++ new) et e.size need
    | some es => appE e et h a es len need new
def appR (e : TD) (h : Hp) (base : Option Addr) (len need cap : Nat) (new : List Value) : E Rs :=
  match base with
  | none => .ok (.val (.slice none need cap) h)
  | some a => bnd (wr h a.block (a.off + len * e.size) new) fun h' => .ok (.val (.slice base need cap) h')
def appN (e : TD) (et : TypeId) (h : Hp) (base : Option Addr) (len cap n : Nat) (new : List Value) : E Rs :=
  match Nat.ble (len + n) cap with
  | true => appR e h base len (len + n) cap new
  | false => appG e et h base len (len + n) new
def appendC (e : TD) (et : TypeId) (h : Hp) (s x : Value) : E Rs :=
  match s with
  | .slice base len cap =>
    bnd (lenC x) fun n =>
    bnd (firstC h e.size n x) fun new => appN e et h base len cap n new
  | _ => .error 42

/-- append(nil, make([]T, n)...) -/
def appendZ (e : TD) (et : TypeId) (h : Hp) (s x : Value) : E Rs :=
  match s, x with
  | .slice none len cap, .int _ (.ofNat n) =>
    chk 205 (Nat.beq len 0 && Nat.beq cap 0 && Nat.blt 0 n && Nat.ble 1 e.size && Nat.ble e.bytes 100000 && Nat.blt (n * e.bytes) bigSize && Nat.blt (n * e.size) bigSize) (grown h (repl e.zero n) et e.size n)
  | _, _ => .error 206

def builtinC (En : Env) (b : Builtin) (types : Array TypeId) (args : List Value) (h : Hp) : E Rs :=
  bnd (opt 43 types[0]?) fun t0 =>
  bnd (opt 44 (En.ty.get t0)) fun d =>
  match b, args with
  | .len, [x] => match d.desc, x with
    | .string, .string s => .ok (.val (goInt s.size) h)
    | .array n _, _ => .ok (.val (goInt n) h)
    | .slice _, .slice _ n _ => .ok (.val (goInt n) h)
    | _, _ => .error 46
  | .cap, [x] => match d.desc, x with
    | .slice _, .slice none _ c => .ok (.val (goInt c) h)
    | .slice _, .slice (some ⟨_, _, none⟩) _ c => .ok (.val (goInt c) h)
    | _, _ => .error 47
  | .append, [s, x] => match d.desc with
    | .slice e => bnd (opt 48 (En.ty.get e)) fun de =>
        match (match types[1]? with | some t1 => (match En.ty.get t1 with | some d1 => (match d1.desc with | .int _ => false | _ => true) | none => false) | none => true) with
        | true => appendC de e h s x
        | false => (match types[1]? with | some t1 => (match En.ty.get t1 with | some d1 => (match d1.desc with | .int _ => appendZ de e h s x | _ => .error 49) | none => .error 49) | none => .error 49)
    | _ => .error 50
  | .copy, [dst, src] => match d.desc, dst with
    | .slice e, .slice base dl _ => bnd (opt 51 (En.ty.get e)) fun de =>
        bnd (lenC src) fun sl =>
        let n := Nat.min sl dl
        bnd (firstC h de.size n src) fun cs =>
        match base with
        | none => .ok (.val (goInt n) h)
        | some a => bnd (wr h a.block a.off cs) fun h' => .ok (.val (goInt n) h')
    | _, _ => .error 52
  | .min, [.int k a, .int k' b] => chk 53 (sameK k k') (.ok (.val (.int k (match ltF b a with | true => b | false => a)) h))
  | .max, [.int k a, .int k' b] => chk 54 (sameK k k') (.ok (.val (.int k (match ltF a b with | true => b | false => a)) h))
  | .clear, [x] => match d.desc, x with
    | .slice _, .slice none _ _ => .ok (.val (.tuple #[]) h)
    | .slice e, .slice (some a) n _ => bnd (opt 55 (En.ty.get e)) fun de => bnd (wr h a.block a.off (repl de.zero n)) fun h' => .ok (.val (.tuple #[]) h')
    | _, _ => .error 56
  | _, _ => .error 57

/-- Texts compared byte by byte. -/
def cmpL : List UInt8 → List UInt8 → Int
  | [], [] => .ofNat 0
  | [], _ :: _ => .negSucc 0
  | _ :: _, [] => .ofNat 1
  | a :: as, b :: bs => match Nat.beq a.toNat b.toNat with
    | true => cmpL as bs
    | false => match Nat.blt a.toNat b.toNat with | true => .negSucc 0 | false => .ofNat 1
/-- What is known of functions without a body. -/
def extC (n : Nat) (args : List Value) : E Value :=
  match n, args with
  | 1, [.string a, .string b] => .ok (.int .i64 (cmpL a.data.toList b.data.toList))
  | _, _ => .error 204

def callC (En : Env) (f : Value) (args : List Value) (h : Hp) : E Rs :=
  match f with
  | .func (.func g) first captured => match En.ex.get g with
    | some n => bnd (extC n (first.toList ++ args ++ captured.toList)) fun v => .ok (.val v h)
    | none => bnd (opt 186 (En.fn.get g)) fun _ => .ok (.enter g (first.toList ++ args ++ captured.toList) h)
  | .func (.yield l) _ _ => .ok (.yld l args h)
  | _ => .error 58

def bytesOf : List Value → E (List UInt8)
  | [] => .ok []
  | .int .u8 n :: r => bnd (bytesOf r) fun l => .ok (UInt8.ofNat n.toNat :: l)
  | _ => .error 59

def convC (En : Env) (src dst : TypeId) (x : Value) (h : Hp) : E Rs :=
  bnd (opt 60 (En.ty.get src)) fun ds => bnd (opt 61 (En.ty.get dst)) fun dd =>
  match ds.desc, dd.desc, x with
  | _, .int k, .int _ n => .ok (.val (.int k (wrapF k n)) h)
  | _, .string, .string _ => .ok (.val x h)
  | .slice e, .string, .slice none _ _ => bnd (opt 183 (En.ty.get e)) fun de => match de.desc with
    | .int .u8 => .ok (.val (.string .empty) h)
    | _ => .error 184
  | .slice e, .string, .slice (some a) len _ => bnd (opt 62 (En.ty.get e)) fun de => match de.desc with
    | .int .u8 => bnd (rd h a.block a.off len) fun cs => bnd (bytesOf cs) fun bs => .ok (.val (.string ⟨bs.toArray⟩) h)
    | _ => .error 63
  | _, .slice e, .string s => bnd (opt 64 (En.ty.get e)) fun de => match de.desc with
    | .int .u8 => grown h (s.data.toList.map fun b => .int .u8 b.toNat) e 1 s.size
    | _ => .error 65
  | .slice _, .slice e, .slice (some a) _ _ => bnd (opt 66 (En.ty.get e)) fun de => match de.desc, Nat.beq src dst with
    | .int .u8, true => (match a.spot with | some 0 => .error 185 | _ => bnd (getBlk h a.block) fun _ => .ok (.val x h))
    | _, _ => .error 67
  | _, _, _ => .error 68

def struOf (En : Env) (t : TypeId) (f : Nat) : E Field :=
  bnd (opt 70 (En.ty.get t)) fun d => match d.desc with | .struct fs => opt 71 fs[f]? | _ => .error 72

def c_pick (En : Env) (id : Nat) (tm : Tr Value) (h : Hp) (c a b : Operand) : E Rs :=
  match evo tm c with | .bool true => .ok (.val (evo tm a) h) | .bool false => .ok (.val (evo tm b) h) | _ => .error 80

def c_alloc (En : Env) (id : Nat) (tm : Tr Value) (h : Hp) (t : TypeId) : E Rs :=
  bnd (opt 81 (En.ty.get t)) fun d => bnd (mkBlk d.zero t) fun ob => .ok (.val (.pointer (some ⟨id, 0, none⟩)) (newAt h id ob))

def c_box (En : Env) (id : Nat) (tm : Tr Value) (h : Hp) (t : TypeId) (x : Operand) : E Rs :=
  bnd (vcells (evo tm x)) fun cs => bnd (mkBlk cs t) fun ob => .ok (.val (.pointer (some ⟨id, 0, none⟩)) (newAt h id ob))

def placesC (En : Env) : List Field → E (List (Nat × Nat))
  | [] => .ok []
  | f :: r => bnd (opt 180 (En.ty.get f.type)) fun d => bnd (placesC En r) fun l => .ok ((f.offset, d.size) :: l)

def c_build (En : Env) (id : Nat) (tm : Tr Value) (h : Hp) (t : TypeId) (parts : Array (Nat × Operand)) : E Rs :=
  bnd (opt 82 (En.ty.get t)) fun d =>
    let ps := parts.toList.map fun (i, x) => (i, evo tm x)
    match d.desc with
    | .struct fs => bnd (placesC En fs.toList) fun pl => bnd (fillC (fun i => pl[i]?) d.zero ps) fun cs => .ok (.val (.agg cs.toArray) h)
    | .array _ e => bnd (opt 83 (En.ty.get e)) fun de => bnd (fillC (fun i => some (i * de.size, de.size)) d.zero ps) fun cs => .ok (.val (.agg cs.toArray) h)
    | _ => .error 84

def c_buildSlice (En : Env) (id : Nat) (tm : Tr Value) (h : Hp) (t : TypeId) (len : Nat) (parts : Array (Nat × Operand)) : E Rs :=
  bnd (opt 85 (En.ty.get t)) fun d =>
    match d.desc with
    | .slice e => bnd (opt 86 (En.ty.get e)) fun de =>
      bnd (fillC (fun i => some (i * de.size, de.size)) (repl de.zero len) (parts.toList.map fun (i, x) => (i, evo tm x))) fun cs =>
      bnd (mkBlk cs e) fun ob => chk 181 (Nat.ble (len * de.size) 10000000) (.ok (.val (.slice (some ⟨id, 0, none⟩) len len) (newAt h id ob)))
    | _ => .error 87

def c_load (En : Env) (id : Nat) (tm : Tr Value) (h : Hp) (t : TypeId) (a : Operand) : E Rs :=
  bnd (opt 88 (En.ty.get t)) fun d => match evo tm a with
    | .pointer (some a) => bnd (ldv d h a.block a.off) fun v => .ok (.val v h)
    | _ => .error 89

def c_store (En : Env) (id : Nat) (tm : Tr Value) (h : Hp) (t : TypeId) (a x : Operand) : E Rs :=
  bnd (opt 90 (En.ty.get t)) fun d => match evo tm a with
    | .pointer (some a) => bnd (vcells (evo tm x)) fun cs => chk 91 (Nat.beq cs.length d.size) (bnd (wr h a.block a.off cs) fun h' => .ok (.val undef h'))
    | _ => .error 92

def c_nilCheck (En : Env) (id : Nat) (tm : Tr Value) (h : Hp) (x : Operand) : E Rs :=
  match evo tm x with
    | .pointer (some a) => .ok (.val (.pointer (some a)) h)
    | .func (.func f) a b => .ok (.val (.func (.func f) a b) h)
    | .func (.yield f) a b => .ok (.val (.func (.yield f) a b) h)
    | _ => .error 93

def c_binOp (En : Env) (id : Nat) (tm : Tr Value) (h : Hp) (t : TypeId) (op : BinOp) (x y : Operand) : E Rs :=
  bnd (bin En t op (evo tm x) (evo tm y)) fun v => .ok (.val v h)

def c_unOp (En : Env) (id : Nat) (tm : Tr Value) (h : Hp) (op : UnOp) (x : Operand) : E Rs :=
  match op, evo tm x with
    | .not, .bool b => .ok (.val (.bool !b) h)
    | .neg, .int k n => bnd (pureOf 94 (Op.intArith .sub k 0 n)) fun v => .ok (.val v h)
    | .xor, .int k n => bnd (pureOf 95 (Op.intBits .xor k (if k.signed then -1 else k.max) n)) fun v => .ok (.val v h)
    | _, _ => .error 96

def c_convert (En : Env) (id : Nat) (tm : Tr Value) (h : Hp) (s d : TypeId) (x : Operand) : E Rs :=
  convC En s d (evo tm x) h

def c_makeFunc (En : Env) (id : Nat) (tm : Tr Value) (h : Hp) (fn : Fn) (first captured : Array Operand) : E Rs :=
  match fn with
    | .func f => .ok (.val (.func (.func f) (first.toList.map (evo tm)).toArray (captured.toList.map (evo tm)).toArray) h)
    | _ => .error 97

def c_makeMap (En : Env) (id : Nat) (tm : Tr Value) (h : Hp) (t : TypeId) (r : Option Operand) : E Rs :=
  bnd (opt 195 (En.ty.get t)) fun d => match d.desc with
    | .map _ _ => bnd (match r with | none => .ok () | some x => (match evo tm x with | .int _ _ => .ok () | _ => .error 196)) fun _ => .ok (.val (.map (some id)) (newAt h id (.map [])))
    | _ => .error 197

def c_makeSlice (En : Env) (id : Nat) (tm : Tr Value) (h : Hp) (t : TypeId) (l c : Operand) : E Rs :=
  bnd (opt 98 (En.ty.get t)) fun d => match d.desc with
    | .slice e => bnd (opt 99 (En.ty.get e)) fun de => bnd (asN 100 (evo tm l)) fun l => bnd (asN 101 (evo tm c)) fun c =>
      chk 102 (Nat.ble l c && Nat.blt (c * de.bytes) bigSize && Nat.blt c bigSize) <|
      bnd (mkBlk (repl de.zero c) e) fun ob => .ok (.val (.slice (some ⟨id, 0, none⟩) l c) (newAt h id ob))
    | _ => .error 103

def c_slice (En : Env) (id : Nat) (tm : Tr Value) (h : Hp) (t : TypeId) (x : Operand) (lo hi mx : Option Operand) : E Rs :=

    let lo := lo.map (evo tm); let hi := hi.map (evo tm); let mx := mx.map (evo tm)
    bnd (opt 104 (En.ty.get t)) fun d => match d.desc, evo tm x with
    | .string, .string s => (match mx with | some _ => .error 105 | none => bnd (slBounds s.size s.size lo hi none) fun (l, h', _) => .ok (.val (.string (s.extract l h')) h))
    | .slice e, .slice none len cap => bnd (opt 182 (En.ty.get e)) fun _ => bnd (slBounds len cap lo hi mx) fun (l, h', m) => .ok (.val (.slice none (h' - l) (m - l)) h)
    | .slice e, .slice (some a) len cap => bnd (opt 106 (En.ty.get e)) fun de => bnd (slBounds len cap lo hi mx) fun (l, h', m) =>
      match a.spot, mx with
      | none, _ => .ok (.val (.slice (some (if m = l then a else a.add (l * de.size))) (h' - l) (m - l)) h)
      | some es, none => match es with
        | 0 => .ok (.val (.slice (some a) 0 0) h)
        | _ + 1 => chk 107 (Nat.beq es de.size) <| match Nat.beq m l && Nat.blt 0 l with
          | true => .ok (.val (.slice (some ⟨a.block, 0, some 0⟩) 0 0) h)
          | false => .ok (.val (.slice (some ⟨a.block, a.off + l * es, some es⟩) (h' - l) (m - l)) h)
      | some es, some _ => chk 108 (Nat.beq es de.size && Nat.blt 0 es) <| .ok (.val (.slice (some (if m = l then ⟨a.block, a.off, none⟩ else ⟨a.block, a.off + l * es, none⟩)) (h' - l) (m - l)) h)
    | .array n e, .pointer (some a) => bnd (opt 109 (En.ty.get e)) fun de => bnd (slBounds n n lo hi mx) fun (l, h', m) =>
      .ok (.val (.slice (some (if m = l then a else a.add (l * de.size))) (h' - l) (m - l)) h)
    | _, _ => .error 110

def c_fieldAddr (En : Env) (id : Nat) (tm : Tr Value) (h : Hp) (t : TypeId) (x : Operand) (f : Nat) : E Rs :=
  bnd (struOf En t f) fun fd => bnd (opt 111 (En.ty.get fd.type)) fun df => match evo tm x with
    | .pointer (some a) => chk 112 (Nat.blt 0 df.size) (.ok (.val (.pointer (some (a.add fd.offset))) h))
    | _ => .error 113

def c_field (En : Env) (id : Nat) (tm : Tr Value) (h : Hp) (t : TypeId) (x : Operand) (f : Nat) : E Rs :=
  bnd (struOf En t f) fun fd => bnd (opt 114 (En.ty.get fd.type)) fun df => match evo tm x with
    | .agg cs => bnd (partC df cs.toList fd.offset) fun v => .ok (.val v h)
    | _ => .error 115

def c_indexAddr (En : Env) (id : Nat) (tm : Tr Value) (h : Hp) (t : TypeId) (x i : Operand) : E Rs :=
  bnd (opt 116 (En.ty.get t)) fun d => bnd (asN 117 (evo tm i)) fun i => match d.desc, evo tm x with
    | .array n e, .pointer (some a) => bnd (opt 118 (En.ty.get e)) fun de => chk 119 (Nat.blt i n) (.ok (.val (.pointer (some (a.add (i * de.size)))) h))
    | .slice e, .slice (some a) n _ => bnd (opt 120 (En.ty.get e)) fun de => chk 121 (Nat.blt i n) (.ok (.val (.pointer (some ⟨a.block, a.off + i * de.size, none⟩)) h))
    | _, _ => .error 122

def c_index (En : Env) (id : Nat) (tm : Tr Value) (h : Hp) (t : TypeId) (x i : Operand) : E Rs :=
  bnd (opt 123 (En.ty.get t)) fun d => bnd (asN 124 (evo tm i)) fun i => match d.desc, evo tm x with
    | .array n e, .agg cs => bnd (opt 125 (En.ty.get e)) fun de => chk 126 (Nat.blt i n) (bnd (partC de cs.toList (i * de.size)) fun v => .ok (.val v h))
    | .string, .string s => match s[i]? with | some b => .ok (.val (.int .u8 b.toNat) h) | none => .error 127
    | _, _ => .error 128

def TD.zv' (d : TD) : Value := match isAg d.desc with | true => .agg d.zero.toArray | false => match d.zero with | v :: _ => v | [] => undef

def c_lookup (En : Env) (id : Nat) (tm : Tr Value) (h : Hp) (t : TypeId) (x i : Operand) (ok : Bool) : E Rs :=
  bnd (opt 129 (En.ty.get t)) fun d => match d.desc with
    | .map kt e => bnd (opt 198 (En.ty.get kt)) fun dk => bnd (opt 130 (En.ty.get e)) fun de => chk 199 (keyD dk.desc) <|
      bnd (match evo tm x with | .map none => .ok [] | .map (some r) => (match h.obs.get r with | some (.map es) => .ok es | _ => .error 131) | _ => .error 132) fun es =>
      bnd (findC dk.desc (evo tm i) es) fun r =>
      .ok (.val (match ok with
        | true => (match r with | some v => .tuple #[v, .bool true] | none => .tuple #[de.zv', .bool false])
        | false => (match r with | some v => v | none => de.zv')) h)
    | _ => .error 133

def c_mapUpdate (En : Env) (id : Nat) (tm : Tr Value) (h : Hp) (t : TypeId) (m k x : Operand) : E Rs :=
  bnd (opt 200 (En.ty.get t)) fun d => match d.desc with
    | .map kt _ => bnd (opt 201 (En.ty.get kt)) fun dk => chk 202 (keyD dk.desc) <| match evo tm m with
      | .map (some r) => match h.obs.get r with
        | some (.map es) => bnd (putC dk.desc (evo tm k) (evo tm x) es) fun es' => .ok (.val undef { h with obs := h.obs.put r (.map es') })
        | _ => .error 134
      | _ => .error 135
    | _ => .error 203

def c_range (En : Env) (id : Nat) (tm : Tr Value) (h : Hp) (t : TypeId) (x : Operand) : E Rs :=
  bnd (opt 136 (En.ty.get t)) fun d => match d.desc, evo tm x with
    | .string, .string s => .ok (.val (.pointer (some ⟨id, 0, none⟩)) (newAt h id (.iter s 0)))
    | _, _ => .error 137

def c_next (En : Env) (id : Nat) (tm : Tr Value) (h : Hp) (it : Operand) : E Rs :=
  match evo tm it with
    | .pointer (some ⟨r, 0, none⟩) => match h.obs.get r with
      | some (.iter s pos) => match Nat.blt pos s.size with
        | true => let (c, width) := Utf8.decode s pos
          .ok (.val (.tuple #[.bool true, goInt pos, .int .i32 c]) { h with obs := h.obs.put r (.iter s (pos + width)) })
        | false => .ok (.val (.tuple #[.bool false]) h)
      | _ => .error 138
    | _ => .error 139

def c_extract (En : Env) (id : Nat) (tm : Tr Value) (h : Hp) (t : Operand) (i : Nat) : E Rs :=
  match evo tm t with | .tuple vs => bnd (opt 140 vs[i]?) fun v => .ok (.val v h) | _ => .error 141

def c_call (En : Env) (id : Nat) (tm : Tr Value) (h : Hp) (c : Call) : E Rs :=
  match c.callee with
    | .builtin b => builtinC En b c.argTypes (c.args.toList.map (evo tm)) h
    | .value f => callC En (evo tm f) (c.args.toList.map (evo tm)) h
    | .invoke _ _ => .error 142

/-- One operation. What it makes new gets the number 'id', where it is one block. -/
def cop (En : Env) (id : Nat) (tm : Tr Value) (h : Hp) (o : Oper) : E Rs :=
  match o.op with
  | .move x | .assign x => .ok (.val (evo tm x) h)
  | .pick c a b => c_pick En id tm h c a b
  | .alloc t => c_alloc En id tm h t
  | .box t x => c_box En id tm h t x
  | .build t parts => c_build En id tm h t parts
  | .buildSlice t len parts => c_buildSlice En id tm h t len parts
  | .load t a => c_load En id tm h t a
  | .store t a x => c_store En id tm h t a x
  | .nilCheck x => c_nilCheck En id tm h x
  | .binOp op t x y _ => c_binOp En id tm h t op x y
  | .unOp op _ x => c_unOp En id tm h op x
  | .convert s d x => c_convert En id tm h s d x
  | .makeFunc fn first captured => c_makeFunc En id tm h fn first captured
  | .makeSlice t l c => c_makeSlice En id tm h t l c
  | .slice t x lo hi mx => c_slice En id tm h t x lo hi mx
  | .fieldAddr t x f => c_fieldAddr En id tm h t x f
  | .field t x f => c_field En id tm h t x f
  | .indexAddr t x i => c_indexAddr En id tm h t x i
  | .index t x i => c_index En id tm h t x i
  | .range t x => c_range En id tm h t x
  | .next it true => c_next En id tm h it
  | .extract t i => c_extract En id tm h t i
  | .call c => c_call En id tm h c
  | .makeMap t r => c_makeMap En id tm h t r
  | .lookup t x i ok => c_lookup En id tm h t x i ok
  | .mapUpdate t m k x | .insert t m k x => c_mapUpdate En id tm h t m k x
  | _ => .error 143

inductive Ex where
  | normal
  | exit (id : Nat)
  | ret

abbrev Evl := Cd → St → E (Ex × St)

def resC (En : Env) (tm : Tr Value) (h : Hp) : ResultVar → E Value
  | .tmp t => .ok (evo tm (.tmp t))
  | .cell a t => bnd (opt 150 (En.ty.get t)) fun d => match evo tm (.tmp a) with
    | .pointer (some a) => ldv d h a.block a.off
    | _ => .error 151
def resCs (En : Env) (tm : Tr Value) (h : Hp) : List ResultVar → E (List Value)
  | [] => .ok []
  | r :: rs => bnd (resC En tm h r) fun v => bnd (resCs En tm h rs) fun vs => .ok (v :: vs)

def outV : List Value → Value
  | [v] => v
  | vs => .tuple vs.toArray

def callW (En : Env) (ev : Evl) (f : Nat) (args : List Value) (h : Hp) : E (Value × Hp) :=
  bnd (opt 152 (En.fn.get f)) fun fn =>
  chk 154 (Nat.ble args.length fn.ntmps && Nat.blt fn.ntmps maxCnt) <|
  bnd (ev fn.body { tm := Tr.ofList args, nt := fn.ntmps, ro := none, hp := h }) fun (e, s) =>
  match e with
  | .exit _ => .error 155
  | _ => bnd (resCs En s.tm s.hp fn.results) fun vs => .ok (outV vs, s.hp)

def putPs (tm : Tr Value) (nt : Nat) : List Tmp → List Value → E (Tr Value)
  | [], [] => .ok tm
  | p :: ps, v :: vs => chk 156 (Nat.blt p nt) (putPs (tm.put p v) nt ps vs)
  | _, _ => .error 157

def isReady : LoopState → Bool | .ready => true | _ => false
def isBusy : LoopState → Bool | .busy => true | _ => false

def getLp (h : Hp) (l : Nat) : E Lp := match h.obs.get l with | some (.loop r) => .ok r | _ => .error 160
def putLp (h : Hp) (l : Nat) (r : Lp) : Hp := { h with obs := h.obs.put l (.loop r) }

def endRd (h : Hp) (l : Nat) (st : LoopState) (p : Option Jm) (v : Bool) : E (Value × Hp) :=
  bnd (getLp h l) fun r => .ok (.bool v, putLp h l { r with state := st, pending := p })

def yieldW (ev : Evl) (l : Nat) (args : List Value) (h : Hp) : E (Value × Hp) :=
  bnd (getLp h l) fun r => bnd (putPs r.tm r.nt r.params args) fun tm =>
  bnd (ev r.assign { tm, nt := r.nt, ro := some l, hp := h }) fun (e, s) =>
  match e with
  | .normal =>
    bnd (getLp s.hp l) fun r1 => chk 158 (isReady r1.state) <|
    bnd (ev r.body { s with hp := putLp s.hp l { r1 with state := .busy } }) fun (e, s) =>
    match e with
    | .normal => endRd s.hp l .ready none true
    | .ret => endRd s.hp l .done (some .ret) false
    | .exit id => endRd s.hp l .done (some (.exit id)) false
  | _ => .error 159

def yieldedC (ops : List Oper) (tm : Tr Value) (j : Nat) : E (Option Bool) :=
  match (ops[j]?).bind (·.dst) with
  | none => .ok none
  | some t => match tm.get t with
    | some (.bool b) => .ok (some b)
    | some (.tuple _) => .ok none
    | none => .ok none
    | _ => .error 161

def wantedC (ops : List Oper) (tm : Tr Value) (o : Oper) : E Bool :=
  match o.guard with
  | none => .ok true
  | some (j, want) => bnd (yieldedC ops tm j) fun y => .ok (match y with | some b => b == want | none => false)

def putD (s : St) (dst : Option Tmp) (v : Value) (h : Hp) : E St :=
  match dst with
  | none => .ok { s with hp := h }
  | some d => chk 162 (Nat.blt d s.nt) (.ok { s with tm := s.tm.put d v, hp := h })

def runRs (En : Env) (ev : Evl) : Rs → E (Value × Hp)
  | .val v h => .ok (v, h)
  | .enter f args h => callW En ev f args h
  | .yld l args h => yieldW ev l args h

/-- One operation, wanted or not. -/
def opW (En : Env) (ev : Evl) (ops : List Oper) (id : Nat) (o : Oper) (s : St) : E (Bool × Value × St) :=
  bnd (wantedC ops s.tm o) fun w =>
  match w with
  | false => bnd (putD s o.dst undef s.hp) fun s' => .ok (false, undef, s')
  | true => bnd (cop En id s.tm s.hp o) fun rs => bnd (runRs En ev rs) fun (v, h) => bnd (putD s o.dst v h) fun s' => .ok (true, v, s')

def opsW (En : Env) (ev : Evl) (ops : List Oper) (id : Nat) : List Oper → St → E St
  | [], s => .ok s
  | o :: r, s => bnd (opW En ev ops id o s) fun (_, _, s') => opsW En ev ops (id + 1) r s'

structure T3 where
  s : St
  wd : Bool
  v : Value

def opsT (En : Env) (ev : Evl) (ops : List Oper) (id : Nat) : List Oper → St → E (List T3 × St)
  | [], s => .ok ([], s)
  | o :: r, s => bnd (opW En ev ops id o s) fun (w, v, s') => bnd (opsT En ev ops (id + 1) r s') fun (tr, sf) => .ok (⟨s, w, v⟩ :: tr, sf)

def veq0 : Value → Value → Bool
  | .bool a, .bool b => a == b
  | .int k a, .int k' b => sameK k k' && eqF a b
  | .string a, .string b => a.data.toList == b.data.toList
  | .pointer a, .pointer b => a == b
  | .slice a n c, .slice b n' c' => a == b && Nat.beq n n' && Nat.beq c c'
  | .map a, .map b => a == b
  | .nilFunc, .nilFunc => true
  | .nilIface, .nilIface => true
  | _, _ => false
def veq0s : List Value → List Value → Bool
  | [], [] => true
  | x :: xs, y :: ys => veq0 x y && veq0s xs ys
  | _, _ => false
def veq1 : Value → Value → Bool
  | .func (.func f) a c, .func (.func f') a' c' => Nat.beq f f' && veq0s a.toList a'.toList && veq0s c.toList c'.toList
  | a, b => veq0 a b
def veq1s : List Value → List Value → Bool
  | [], [] => true
  | x :: xs, y :: ys => veq1 x y && veq1s xs ys
  | _, _ => false
def veqB : Value → Value → Bool
  | .agg a, .agg b => veq1s a.toList b.toList
  | a, b => veq1 a b

def hpAt (tr : List T3) (fin : St) (j : Nat) : Hp := match tr[j]? with | some t => t.s.hp | none => fin.hp
def chk1 (En : Env) (id : Nat) (ops : List Oper) (tr : List T3) (fin : St) (i j : Nat) : Bool :=
  match tr[i]?, ops[i]? with
  | some t, some o => match t.wd with
    | false => true
    | true => match cop En (id + i) t.s.tm (hpAt tr fin (match Nat.blt i j with | true => j + 1 | false => j)) o with
      | .ok (.val v _) => veqB v t.v
      | _ => false
  | _, _ => false
def chks (En : Env) (id : Nat) (ops : List Oper) (tr : List T3) (fin : St) : List (Nat × Nat) → Bool
  | [] => true
  | (i, j) :: r => match chk1 En id ops tr fin i j with
    | true => chks En id ops tr fin r
    | false => false

def bump (s : St) (n : Nat) : St := { s with hp := { s.hp with cnt := s.hp.cnt + n } }

def evStep (En : Env) (ev : Evl) (c : Cd) (s : St) : E (Ex × St) :=
  match c with
  | .skip => .ok (.normal, s)
  | .ret => .ok (.ret, s)
  | .exit i => .ok (.exit i, s)
  | .seq a b => bnd (ev a s) fun (e, s') => match e with
    | .normal => ev b s'
    | e => .ok (e, s')
  | .cond c a b => match evo s.tm c with
    | .bool true => ev a s
    | .bool false => ev b s
    | _ => .error 163
  | .block i b => bnd (ev b s) fun (e, s') => match e with
    | .exit j => (match Nat.beq j i with | true => .ok (.normal, s') | false => .ok (.exit j, s'))
    | e => .ok (e, s')
  | .loop b => bnd (ev b s) fun (e, s') => match e with
    | .normal => ev (.loop b) s'
    | e => .ok (e, s')
  | .scope b => ev b s
  | .region ops n =>
    chk 164 (Nat.blt (s.hp.cnt + n) maxCnt) <|
    bnd (opsW En ev ops s.hp.cnt ops (bump s n)) fun s' => .ok (.normal, s')
  | .drawn ops n ps =>
    chk 164 (Nat.blt (s.hp.cnt + n) maxCnt) <|
    match ps with
    | [] => bnd (opsW En ev ops s.hp.cnt ops (bump s n)) fun s' => .ok (.normal, s')
    | _ :: _ => bnd (opsT En ev ops s.hp.cnt ops (bump s n)) fun (tr, s') => chk 170 (chks En s.hp.cnt ops tr s' ps) (.ok (.normal, s'))
  | .rangeFunc g ps assign body =>
    bnd (match s.ro with | none => .ok () | some l => bnd (getLp s.hp l) fun _ => .ok ()) fun _ =>
    chk 8 (Nat.blt s.hp.cnt maxCnt) <|
    bnd (callC En (evo s.tm g) [.func (.yield s.hp.cnt) #[] #[]] { putLp s.hp s.hp.cnt { tm := s.tm, nt := s.nt, params := ps, assign, body, state := .ready, pending := none } with cnt := s.hp.cnt + 1 }) fun rs => match rs with
    | .enter f args h => bnd (callW En ev f args h) fun (_, h') =>
      bnd (getLp h' s.hp.cnt) fun r => chk 165 (!isBusy r.state) <|
        let s' : St := { s with hp := putLp h' s.hp.cnt { r with state := .exhausted } }
        match r.pending with
        | none => .ok (.normal, s')
        | some .ret => .ok (.ret, s')
        | some (.exit i) => .ok (.exit i, s')
    | _ => .error 168
  | .bad => .error 169

def evN (En : Env) : Nat → Evl
  | 0 => fun _ _ => .error 0
  | n + 1 => evStep En (evN En n)

def hp0 : Hp := { obs := .leaf, cnt := 0, fams := .leaf }
/-- A call without arguments, from an empty heap. -/
def evCall0 (En : Env) (n f : Nat) : E (Value × Hp) := callW En (evN En n) f [] hp0
def isTrue : E (Value × Hp) → Bool
  | .ok (.bool b, _) => b
  | _ => false
def errOf : E (Value × Hp) → Nat
  | .ok (.bool true, _) => 1000
  | .ok (.bool false, _) => 1001
  | .ok _ => 1002
  | .error e => e
end
end Go.Ev
