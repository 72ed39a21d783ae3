/-
  By an AI agent: a part of the proof of this claim; what is proved stands in the text YtjinlihckmgioaaGreatDoorMain.
-/
import Derived.Test.YtjinlihckmgioaaGreatDoorEvPr
set_option linter.unusedVariables false
set_option linter.unusedSimpArgs false
set_option linter.unusedSectionVars false
set_option linter.unusedVariables false
set_option linter.unusedSimpArgs false
namespace Go.Ev
open Go
noncomputable section

/-! What a region does, for known temporaries. -/
abbrev AL := List (Nat × Value)
def lookA : AL → Nat → Option Value
  | [], _ => none
  | (i, v) :: r, t => match Nat.beq i t with | true => some v | false => lookA r t
def putA (m : AL) (d : Option Nat) (v : Value) : AL := match d with | none => m | some t => (t, v) :: m
def KnA (m : AL) (tm : Tr Value) : Prop := ∀ t v, lookA m t = some v → evo tm (.tmp t) = v

variable {R : Type}
def rdK (m : AL) (x : Operand) (k : Value → E R) : E R :=
  match x with
  | .tmp t => match lookA m t with | some v => k v | none => .error 312
  | .const c => match plainV c with | true => k c | false => k psn
  | .global _ => k psn
  | .func f => k (.func (.func f) #[] #[])
def rdKs (m : AL) : List Operand → (List Value → E R) → E R
  | [], k => k []
  | x :: xs, k => rdK m x fun v => rdKs m xs fun vs => k (v :: vs)
def resA (m : AL) : List Operand → Option AL
  | [] => some []
  | .tmp t :: r => match lookA m t, Nat.blt t maxCnt, resA m r with | some v, true, some l => some ((t, v) :: l) | _, _, _ => none
  | _ :: r => resA m r
def tmOf : AL → Tr Value
  | [] => .leaf
  | (t, v) :: r => (tmOf r).put t v
def oOf (op : Op) : Oper := { dst := none, op := op, type := 0, pos := "", after := #[], guard := none }
def slowK (En : Env) (orc : Orc) (id : Nat) (op : Op) (m : AL) (h : Hp) (k : Value → Hp → E R) : E R :=
  bndF (cop En id (tmOf m) h (oOf op)) fun rs => bndF (orc rs) fun q => prK q k
def slowM (En : Env) (orc : Orc) (id : Nat) (op : Op) (m : AL) (h : Hp) (k : Value → Hp → E R) : E R :=
  match resA m op.operands.toList with
  | some m' => slowK En orc id op m' h k
  | none => .error 313

def intD (En : Env) (t : TypeId) : Option IntKind := match En.ty.get t with | some d => (match d.desc with | .int k => some k | _ => none) | none => none
def cellD (En : Env) (t : TypeId) : Bool := match En.ty.get t with | some d => (match isAg d.desc with | true => false | false => Nat.beq d.size 1) | none => false
def elemD (En : Env) (t : TypeId) : Option Nat := match En.ty.get t with | some d => (match d.desc with | .slice e => (match En.ty.get e with | some de => some de.size | none => none) | _ => none) | none => none
def rowD (En : Env) (t : TypeId) : Option (Nat × Nat) := match En.ty.get t with | some d => (match d.desc with | .array n e => (match En.ty.get e with | some de => some (n, de.size) | none => none) | _ => none) | none => none
def offD (En : Env) (t : TypeId) (f : Nat) : Option Nat := match struOf En t f with | .ok fd => (match En.ty.get fd.type with | some df => (match Nat.blt 0 df.size with | true => some fd.offset | false => none) | none => none) | .error _ => none
def slD (En : Env) (ts : Array TypeId) : Bool := match ts[0]? with | some t => (match En.ty.get t with | some d => (match d.desc with | .slice _ => true | _ => false) | none => false) | none => false
def fnD (En : Env) (g : Nat) : Bool := match En.ex.get g with | some _ => false | none => (match En.fn.get g with | some _ => true | none => false)
/-- A row against nil. -/
def nilD (En : Env) (t : TypeId) (op : BinOp) (y : Operand) : Option Bool := match y with
  | .const (.slice none _ _) => (match En.ty.get t with | some d => (match d.eqs, d.desc, op with | false, .slice _, .eql => some true | false, .slice _, .neq => some false | _, _, _ => none) | none => none)
  | _ => none
def notF (b : Bool) : Bool := @Bool.rec (fun _ => Bool) true false b
theorem notF_eq (b : Bool) : notF b = !b := by cases b <;> rfl

def binK (En : Env) (t : TypeId) (kd : IntKind) (op : BinOp) (a b : Value) (k : Value → E R) : E R :=
  match op with
  | .add => numK kd a fun x => numK kd b fun y => k (.int kd (arW add64 addW kd x y))
  | .sub => numK kd a fun x => numK kd b fun y => k (.int kd (arW sub64 subW kd x y))
  | .mul => numK kd a fun x => numK kd b fun y => k (.int kd (wrapF kd (mulF x y)))
  | .lss => numK kd a fun x => numK kd b fun y => k (.bool (ltW x y))
  | .gtr => numK kd a fun x => numK kd b fun y => k (.bool (ltW y x))
  | .leq => numK kd a fun x => numK kd b fun y => k (.bool (notF (ltW y x)))
  | .geq => numK kd a fun x => numK kd b fun y => k (.bool (notF (ltW x y)))
  | .eql => numK kd a fun x => numK kd b fun y => k (.bool (eqW x y))
  | .neq => numK kd a fun x => numK kd b fun y => k (.bool (notF (eqW x y)))
  | op => bndF (bin En t op a b) k

def nilV (v : Value) : E Value := match v with
  | .pointer (some a) => .ok (.pointer (some a))
  | .func (.func f) a b => .ok (.func (.func f) a b)
  | .func (.yield f) a b => .ok (.func (.yield f) a b)
  | _ => .error 93

def adrK (a : Option Addr) (f : Addr → E R) : E R := @Option.rec Addr (fun _ => E R) (.error 308) (fun a => f a) a
def valK (a : Option Value) (f : Value → E R) : E R := @Option.rec Value (fun _ => E R) (.error 309) (fun a => f a) a

/-! Operations on values. -/
def rsK (rs : Rs) (k : Value → Hp → E R) : E R := @Rs.casesOn (fun _ => E R) rs (fun v h => k v h) (fun _ _ _ => .error 330) (fun _ _ _ => .error 330)
def zeroOf (En : Env) (t : TypeId) : List Value := match En.ty.get t with | some d => d.zero | none => []
def tyD (En : Env) (t : TypeId) : Bool := match En.ty.get t with | some _ => true | none => false
def tdOf (En : Env) (t : TypeId) : TD := match En.ty.get t with | some d => d | none => { desc := .bool, size := 0, bytes := 0, zero := [], eqs := false }
def aggD (En : Env) (t : TypeId) : Bool := match En.ty.get t with | some d => isAg d.desc | none => false
/-- A slice type's element type, where that is there. -/
def slE (En : Env) (t : TypeId) : Option TypeId := match En.ty.get t with | some d => (match d.desc with | .slice e => (match En.ty.get e with | some _ => some e | none => none) | _ => none) | none => none
/-- The element type of what is appended to, where what is appended is no number. -/
def apE (En : Env) (ts : Array TypeId) : Option TypeId := match ts[0]?, ts[1]? with
  | some t0, some t1 => (match En.ty.get t1 with | some d1 => (match d1.desc with | .int _ => none | _ => slE En t0) | none => none)
  | _, _ => none
def mkSl (En : Env) (e : TypeId) (id : Nat) (h : Hp) (lv cv : Value) (k : Value → Hp → E R) : E R :=
  natK lv fun l => natK cv fun c => ifK (Nat.ble l c && Nat.blt (c * (tdOf En e).bytes) bigSize && Nat.blt c bigSize) 102 <|
  bndF (mkBlk (repl (zeroOf En e) c) e) fun ob => k (.slice (some ⟨id, 0, none⟩) l c) (newAt h id ob)
def seqN : Nat → List (Nat × Operand) → Bool
  | _, [] => true
  | i, (j, _) :: r => match Nat.beq i j with | true => seqN (i + 1) r | false => false
/-- The element type of a row of cells that is laid whole. -/
def bsE (En : Env) (t : TypeId) (n : Nat) (ps : List (Nat × Operand)) : Option TypeId := match slE En t with
  | some e => (match Nat.beq (tdOf En e).size 1 && Nat.beq ps.length n && seqN 0 ps && Nat.ble n 10000000 && Nat.beq (zeroOf En e).length 1 with | true => some e | false => none)
  | none => none

def denCall (En : Env) (orc : Orc) (id : Nat) (op : Op) (c : Call) (m : AL) (h : Hp) (k : Value → Hp → E R) : E R :=
  match c.callee with
  | .value (.func g) => match fnD En g with
    | true => rdKs m c.args.toList fun vs => bndF (orc (.enter g vs h)) fun q => k q.1 q.2
    | false => slowM En orc id op m h k
  | .builtin .len => match slD En c.argTypes, c.args.toList with
    | true, [x] => rdK m x fun v => slcK v fun _ n => k (.int .i64 (.ofNat n)) h
    | _, _ => slowM En orc id op m h k
  | .builtin .append => match apE En c.argTypes, c.args.toList with
    | some e, [s, x] => rdK m s fun s => rdK m x fun x => bndF (appendC (tdOf En e) e h s x) fun rs => rsK rs k
    | _, _ => slowM En orc id op m h k
  | .value (.tmp t) => rdK m (.tmp t) fun f => rdKs m c.args.toList fun vs => bndF (callC En f vs h) fun rs => bndF (orc rs) fun q => prK q k
  | _ => slowM En orc id op m h k

def denRun (En : Env) (orc : Orc) (id : Nat) (op : Op) (m : AL) (h : Hp) (k : Value → Hp → E R) : E R :=
  match op with
  | .move x => rdK m x fun v => k v h
  | .assign x => rdK m x fun v => k v h
  | .pick c a b => rdK m c fun c => rdK m a fun a => rdK m b fun b => bolK c fun q => k (@Bool.rec (fun _ => Value) b a q) h
  | .load t a => match cellD En t with
    | true => rdK m a fun p => ptrK p fun a => loadS h a.block a.off fun v => k v h
    | false => match aggD En t with
      | true => rdK m a fun p => ptrK p fun a => bndF (rd h a.block a.off (tdOf En t).size) fun cs => k (.agg cs.toArray) h
      | false => slowM En orc id (.load t a) m h k
  | .store t a x => match cellD En t with
    | true => rdK m a fun p => rdK m x fun v => ptrK p fun a => storeS h a.block a.off v fun h' => k undef h'
    | false => slowM En orc id (.store t a x) m h k
  | .nilCheck x => rdK m x fun v => bndF (nilV v) fun v => k v h
  | .binOp op t x y u => match intD En t with
    | some kd => rdK m x fun a => rdK m y fun b => binK En t kd op a b fun v => k v h
    | none => match nilD En t op y with
      | some true => rdK m x fun a => slcK a fun a _ => k (.bool (isN a)) h
      | some false => rdK m x fun a => slcK a fun a _ => k (.bool (notF (isN a))) h
      | none => rdK m x fun a => rdK m y fun b => bndF (bin En t op a b) fun v => k v h
  | .fieldAddr t x f => match offD En t f with
    | some n => rdK m x fun p => ptrK p fun a => k (.pointer (some (addA a n))) h
    | none => slowM En orc id (.fieldAddr t x f) m h k
  | .indexAddr t x i => match elemD En t with
    | some n => rdK m x fun s => rdK m i fun j => slcK s fun a c => adrK a fun a => natK j fun i => ifK (Nat.blt i c) 121 (k (.pointer (some ⟨a.block, Nat.add a.off (Nat.mul i n), none⟩)) h)
    | none => match rowD En t with
      | some (c, n) => rdK m x fun p => rdK m i fun j => ptrK p fun a => natK j fun i => ifK (Nat.blt i c) 119 (k (.pointer (some (a.add (Nat.mul i n)))) h)
      | none => slowM En orc id (.indexAddr t x i) m h k
  | .extract t i => rdK m t fun v => tupK v fun l => valK (l.toList[i]?) fun v => k v h
  | .unOp .not t x => rdK m x fun v => bolK v fun b => k (.bool (notF b)) h
  | .box t x => rdK m x fun v => bndF (vcells v) fun cs => bndF (mkBlk cs t) fun ob => k (.pointer (some ⟨id, 0, none⟩)) (newAt h id ob)
  | .alloc t => match tyD En t with
    | true => bndF (mkBlk (zeroOf En t) t) fun ob => k (.pointer (some ⟨id, 0, none⟩)) (newAt h id ob)
    | false => .error 331
  | .makeSlice t l c => match slE En t with
    | some e => rdK m l fun l => rdK m c fun c => mkSl En e id h l c k
    | none => .error 332
  | .convert s d x => rdK m x fun v => bndF (convC En s d v h) fun rs => rsK rs k
  | .makeFunc fn first captured => match fn with
    | .func f => rdKs m first.toList fun a => rdKs m captured.toList fun c => k (.func (.func f) a.toArray c.toArray) h
    | _ => .error 333
  | .buildSlice t n ps => match bsE En t n ps.toList with
    | some e => rdKs m (ps.toList.map (·.2)) fun vs => bndF (mkBlk vs e) fun ob => k (.slice (some ⟨id, 0, none⟩) n n) (newAt h id ob)
    | none => slowM En orc id (.buildSlice t n ps) m h k
  | .call c => denCall En orc id (.call c) c m h k
  | op => slowM En orc id op m h k

structure Tre where
  m : AL
  h : Hp
  wd : Bool
  v : Value

def dstOk (nt : Nat) : Option Nat → Bool
  | none => true
  | some d => Nat.blt d nt && Nat.blt d maxCnt
def wantV (v : Value) (want : Bool) : E Bool := match v with
  | .bool b => .ok (match want with | true => b | false => notF b)
  | .tuple _ => .ok false
  | _ => .error 161
def gdT (gops : List Oper) (j : Nat) : Option Nat := (gops[j]?).bind (·.dst)

def denOp (En : Env) (nt : Nat) (gops : List Oper) (orc : Orc) (id : Nat) (o : Oper) (m : AL) (h : Hp) (k : Bool → Value → AL → Hp → E R) : E R :=
  match dstOk nt o.dst with
  | false => .error 310
  | true => match o.guard with
    | none => denRun En orc id o.op m h fun v h' => k true v (putA m o.dst v) h'
    | some (j, want) => match gdT gops j with
      | none => .error 314
      | some t => match lookA m t with
        | none => .error 311
        | some gv => bndF (wantV gv want) fun w =>
          bndF (@Bool.rec (fun _ => E (Value × Hp)) (.ok (undef, h)) (denRun En orc id o.op m h fun v h' => .ok (v, h')) w) fun q => k w q.1 (putA m o.dst q.1) q.2

def denOps (En : Env) (nt : Nat) (gops : List Oper) (orc : Orc) (id : Nat) : List Oper → AL → Hp → (List Tre → AL → Hp → E R) → E R
  | [], m, h, k => k [] m h
  | o :: r, m, h, k => denOp En nt gops orc id o m h fun w v m' h' => denOps En nt gops orc (Nat.succ id) r m' h' fun tr m2 h2 => k (⟨m, h, w, v⟩ :: tr) m2 h2

def hpD (tr : List Tre) (fin : Hp) (j : Nat) : Hp := match tr[j]? with | some t => t.h | none => fin
/-- A load that may come at another time reads the same. -/
def sameS (En : Env) (id : Nat) (op : Op) (m : AL) (h : Hp) (wd : Bool) (v : Value) : Bool :=
  match wd with
  | false => true
  | true => match cop En id (tmOf m) h (oOf op) with
    | .ok (.val v' _) => veqB v' v
    | _ => false
def chksK (En : Env) (id : Nat) (ops : List Oper) (tr : List Tre) (fin : Hp) : List (Nat × Nat) → E R → E R
  | [], k => k
  | (i, j) :: r, k => match tr[i]?, ops[i]? with
    | some t, some o => match resA t.m o.op.operands.toList with
      | some m' => ifK (sameS En (Nat.add id i) o.op m' (hpD tr fin (match Nat.blt i j with | true => j + 1 | false => j)) t.wd t.v) 170 (chksK En id ops tr fin r k)
      | none => .error 315
    | _, _ => .error 316

structure FrT (F : Type) where
  toL : F → List Value
  ofL : List Value → F
  n : Nat
  ok : ∀ l, l.length = n → toL (ofL l) = l

def outK (m : AL) : List Nat → (List Value → E R) → E R
  | [], k => k []
  | p :: r, k => match lookA m p with
    | some v => outK m r fun l => k (v :: l)
    | none => .error 317

variable {F : Type}
def denReg (En : Env) (T : FrT F) (ps : List Nat) (nt : Nat) (ops : List Oper) (n : Nat) (prs : List (Nat × Nat)) (orc : Orc) (fr : F) (h : Hp) : E (F × Hp) :=
  ifK (Nat.blt (Nat.add h.cnt n) maxCnt) 164 <|
  denOps En nt ops orc h.cnt ops (ps.zip (T.toL fr)) { obs := h.obs, cnt := Nat.add h.cnt n, fams := h.fams } fun tr m h' =>
  chksK En h.cnt ops tr h' prs <| outK m ps fun l => .ok (T.ofL l, h')
end
end Go.Ev
