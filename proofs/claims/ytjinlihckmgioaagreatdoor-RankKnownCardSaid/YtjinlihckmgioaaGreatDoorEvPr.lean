/-
  By an AI agent: a part of the proof of this claim; what is proved stands in the text YtjinlihckmgioaaGreatDoorMain.
-/
import Derived.Test.YtjinlihckmgioaaGreatDoorEvX
set_option linter.unusedVariables false
set_option linter.unusedSimpArgs false
set_option linter.unusedSectionVars false
set_option linter.unusedVariables false
namespace Go.Ev
open Go
noncomputable section

/-! What is said once more with recursors, for the kernel. -/
def bndF {α β : Type} (x : E α) (f : α → E β) : E β := @Except.rec Nat α (fun _ => (α → E β) → E β) (fun e _ => .error e) (fun a f => f a) x f
def chkF {α : Type} (n : Nat) (b : Bool) (x : E α) : E α := @Bool.rec (fun _ => Nat → E α → E α) (fun n _ => .error n) (fun _ x => x) b n x
def getF {α : Type} (t : Tr α) : Nat → Option α :=
  @Tr.rec α (fun _ => Nat → Option α) (fun _ => none)
    (fun v l r gl gr n => @Nat.rec (fun _ => Option α) v (fun k _ => @Bool.rec (fun _ => Option α) (gr (Nat.div k 2)) (gl (Nat.div k 2)) (Nat.beq (Nat.mod k 2) 0)) n) t
def singleF {α : Type} (x : Option α) (f : Nat) : Nat → Tr α :=
  @Nat.rec (fun _ => Nat → Tr α) (fun _ => .leaf)
    (fun _ ih n => @Nat.rec (fun _ => Tr α) (.node x .leaf .leaf) (fun k _ => @Bool.rec (fun _ => Tr α) (.node none .leaf (ih (Nat.div k 2))) (.node none (ih (Nat.div k 2)) .leaf) (Nat.beq (Nat.mod k 2) 0)) n) f
/-- A tree with another value, not deeper than f. -/
def setF {α : Type} (t : Tr α) : Nat → Nat → Option α → Tr α :=
  @Tr.rec α (fun _ => Nat → Nat → Option α → Tr α) (fun f n x => singleF x f n)
    (fun v l r gl gr f n x => @Nat.rec (fun _ => Tr α) (.node v l r) (fun f' _ => @Nat.rec (fun _ => Tr α) (.node x l r) (fun k _ => @Bool.rec (fun _ => Tr α) (.node v l (gr f' (Nat.div k 2) x)) (.node v (gl f' (Nat.div k 2) x) r) (Nat.beq (Nat.mod k 2) 0)) n) f) t

theorem bndF_eq {α β : Type} (x : E α) (f : α → E β) : bndF x f = bnd x f := rfl
theorem chkF_eq {α : Type} (n : Nat) (b : Bool) (x : E α) : chkF n b x = chk n b x := by cases b <;> rfl
theorem getF_eq {α : Type} (t : Tr α) (n : Nat) : getF t n = t.get n := rfl
theorem setF_eq {α : Type} (t : Tr α) (f n : Nat) (x : Option α) : setF t f n x = Tr.set f t n x := rfl

variable {R : Type}
def intK (v : Value) (f : IntKind → Int → E R) : E R :=
  @Value.rec (fun _ => E R) (fun _ => PUnit) (fun _ => PUnit) (fun _ => .error 301) (fun k i => f k i) (fun _ _ => .error 301) (fun _ _ _ => .error 301) (fun _ => .error 301) (fun _ => .error 301) (fun _ _ _ => .error 301) (fun _ => .error 301) (fun _ => .error 301) (fun _ _ _ _ _ => .error 301) (.error 301) (fun _ _ _ => .error 301) (.error 301) (fun _ _ => .error 301) (fun _ _ => .error 301) (fun _ _ => ⟨⟩) ⟨⟩ (fun _ _ _ _ => ⟨⟩) v
def ptrK (v : Value) (f : Addr → E R) : E R :=
  @Value.rec (fun _ => E R) (fun _ => PUnit) (fun _ => PUnit) (fun _ => .error 302) (fun _ _ => .error 302) (fun _ _ => .error 302) (fun _ _ _ => .error 302) (fun _ => .error 302) (fun a => @Option.rec Addr (fun _ => E R) (.error 302) (fun a => f a) a) (fun _ _ _ => .error 302) (fun _ => .error 302) (fun _ => .error 302) (fun _ _ _ _ _ => .error 302) (.error 302) (fun _ _ _ => .error 302) (.error 302) (fun _ _ => .error 302) (fun _ _ => .error 302) (fun _ _ => ⟨⟩) ⟨⟩ (fun _ _ _ _ => ⟨⟩) v
def slcK (v : Value) (f : Option Addr → Nat → E R) : E R :=
  @Value.rec (fun _ => E R) (fun _ => PUnit) (fun _ => PUnit) (fun _ => .error 303) (fun _ _ => .error 303) (fun _ _ => .error 303) (fun _ _ _ => .error 303) (fun _ => .error 303) (fun _ => .error 303) (fun a n _ => f a n) (fun _ => .error 303) (fun _ => .error 303) (fun _ _ _ _ _ => .error 303) (.error 303) (fun _ _ _ => .error 303) (.error 303) (fun _ _ => .error 303) (fun _ _ => .error 303) (fun _ _ => ⟨⟩) ⟨⟩ (fun _ _ _ _ => ⟨⟩) v
def bolK (v : Value) (f : Bool → E R) : E R :=
  @Value.rec (fun _ => E R) (fun _ => PUnit) (fun _ => PUnit) (fun b => f b) (fun _ _ => .error 304) (fun _ _ => .error 304) (fun _ _ _ => .error 304) (fun _ => .error 304) (fun _ => .error 304) (fun _ _ _ => .error 304) (fun _ => .error 304) (fun _ => .error 304) (fun _ _ _ _ _ => .error 304) (.error 304) (fun _ _ _ => .error 304) (.error 304) (fun _ _ => .error 304) (fun _ _ => .error 304) (fun _ _ => ⟨⟩) ⟨⟩ (fun _ _ _ _ => ⟨⟩) v
def tupK (v : Value) (f : Array Value → E R) : E R :=
  @Value.rec (fun _ => E R) (fun _ => PUnit) (fun _ => PUnit) (fun _ => .error 305) (fun _ _ => .error 305) (fun _ _ => .error 305) (fun _ _ _ => .error 305) (fun _ => .error 305) (fun _ => .error 305) (fun _ _ _ => .error 305) (fun _ => .error 305) (fun _ => .error 305) (fun _ _ _ _ _ => .error 305) (.error 305) (fun _ _ _ => .error 305) (.error 305) (fun _ _ => .error 305) (fun l _ => f l) (fun _ _ => ⟨⟩) ⟨⟩ (fun _ _ _ _ => ⟨⟩) v

theorem intK_ok {v : Value} {f : IntKind → Int → E R} {r : R} (h : intK v f = .ok r) : ∃ k i, v = .int k i ∧ f k i = .ok r := by
  cases v <;> first | exact ⟨_, _, rfl, h⟩ | cases h
theorem ptrK_ok {v : Value} {f : Addr → E R} {r : R} (h : ptrK v f = .ok r) : ∃ a, v = .pointer (some a) ∧ f a = .ok r := by
  cases v <;> first | (rename_i a; cases a <;> first | exact ⟨_, rfl, h⟩ | cases h) | cases h
theorem slcK_ok {v : Value} {f : Option Addr → Nat → E R} {r : R} (h : slcK v f = .ok r) : ∃ a n c, v = .slice a n c ∧ f a n = .ok r := by
  cases v <;> first | exact ⟨_, _, _, rfl, h⟩ | cases h
theorem bolK_ok {v : Value} {f : Bool → E R} {r : R} (h : bolK v f = .ok r) : ∃ b, v = .bool b ∧ f b = .ok r := by
  cases v <;> first | exact ⟨_, rfl, h⟩ | cases h
theorem tupK_ok {v : Value} {f : Array Value → E R} {r : R} (h : tupK v f = .ok r) : ∃ l, v = .tuple l ∧ f l = .ok r := by
  cases v <;> first | exact ⟨_, rfl, h⟩ | cases h

def isI64 (k : IntKind) : Bool := @IntKind.rec (fun _ => Bool) false false false true false false false false k
theorem isI64_ok {k : IntKind} (h : isI64 k = true) : k = .i64 := by cases k <;> first | rfl | cases h
def i64K (v : Value) (f : Int → E R) : E R := intK v fun k i => @Bool.rec (fun _ => E R) (.error 306) (f i) (isI64 k)
def kindK (kd : IntKind) (v : Value) (f : Int → E R) : E R := intK v fun k i => @Bool.rec (fun _ => E R) (.error 306) (f i) (sameK kd k)
/-- A number of a kind. -/
def numK : IntKind → Value → (Int → E R) → E R
  | .i64 => fun v f => intK v fun k i => @Bool.rec (fun _ => E R) (.error 306) (f i) (isI64 k)
  | kd => fun v f => intK v fun k i => @Bool.rec (fun _ => E R) (.error 306) (f i) (sameK kd k)
theorem numK_ok {kd : IntKind} {v : Value} {f : Int → E R} {r : R} (h : numK kd v f = .ok r) : ∃ i, v = .int kd i ∧ f i = .ok r := by
  have key : ∃ k i, v = .int k i ∧ ∃ b, (b = true → k = kd) ∧ @Bool.rec (fun _ => E R) (.error 306) (f i) b = .ok r := by
    cases kd
    case i64 =>
      obtain ⟨k, i, h1, h2⟩ := intK_ok h
      exact ⟨k, i, h1, isI64 k, isI64_ok, h2⟩
    all_goals
      obtain ⟨k, i, h1, h2⟩ := intK_ok h
      exact ⟨k, i, h1, _, fun hb => (sameK_eq hb).symm, h2⟩
  obtain ⟨k, i, rfl, b, hb, h2⟩ := key
  cases b with
  | false => cases h2
  | true => exact ⟨i, by rw [hb rfl], h2⟩
def natK (v : Value) (f : Nat → E R) : E R := intK v fun _ i => @Int.rec (fun _ => E R) (fun n => f n) (fun _ => .error 307) i
theorem natK_ok {v : Value} {f : Nat → E R} {r : R} (h : natK v f = .ok r) : ∃ k n, v = .int k (.ofNat n) ∧ f n = .ok r := by
  obtain ⟨k, i, rfl, h⟩ := intK_ok h
  cases i with
  | ofNat n => exact ⟨k, n, rfl, h⟩
  | negSucc n => cases h

def blkK (o : Option Ob) (f : Blk → E R) : E R := @Option.rec Ob (fun _ => E R) (.error 3) (fun ob => @Ob.casesOn (fun _ => E R) ob (fun b => f b) (fun _ => .error 3) (fun _ _ => .error 3) (fun _ => .error 3)) o
theorem blkK_ok {o : Option Ob} {f : Blk → E R} {r : R} (h : blkK o f = .ok r) : ∃ b, o = some (.cells b) ∧ f b = .ok r := by
  cases o with
  | none => cases h
  | some ob => cases ob <;> first | exact ⟨_, rfl, h⟩ | cases h
def ifK (b : Bool) (n : Nat) (x : E R) : E R := @Bool.rec (fun _ => E R) (.error n) x b
theorem ifK_ok {b : Bool} {n : Nat} {x : E R} {r : R} (h : ifK b n x = .ok r) : b = true ∧ x = .ok r := by
  cases b with
  | false => cases h
  | true => exact ⟨rfl, h⟩

/-! Arithmetic, with recursors. -/
def wrapN (n : Nat) : Int := @Bool.rec (fun _ => Int) (wrapF .i64 (.ofNat n)) (.ofNat n) (Nat.ble (Nat.succ n) 9223372036854775808)
def addW (kd : IntKind) (x y : Int) : Int := wrapF kd (addF x y)
def add64 (x y : Int) : Int := @Int.rec (fun _ => Int) (fun a => @Int.rec (fun _ => Int) (fun b => wrapN (Nat.add a b)) (fun _ => addW .i64 x y) y) (fun _ => addW .i64 x y) x
def subW (kd : IntKind) (x y : Int) : Int := wrapF kd (subF x y)
def sub64 (x y : Int) : Int := @Int.rec (fun _ => Int) (fun a => @Int.rec (fun _ => Int) (fun b => @Bool.rec (fun _ => Int) (subW .i64 x y) (wrapN (Nat.sub a b)) (Nat.ble b a)) (fun _ => subW .i64 x y) y) (fun _ => subW .i64 x y) x
def ltW (x y : Int) : Bool := @Int.rec (fun _ => Bool) (fun a => @Int.rec (fun _ => Bool) (fun b => Nat.ble (Nat.succ a) b) (fun _ => false) y) (fun a => @Int.rec (fun _ => Bool) (fun _ => true) (fun b => Nat.ble (Nat.succ b) a) y) x
def eqW (x y : Int) : Bool := @Int.rec (fun _ => Bool) (fun a => @Int.rec (fun _ => Bool) (fun b => Nat.beq a b) (fun _ => false) y) (fun a => @Int.rec (fun _ => Bool) (fun _ => false) (fun b => Nat.beq a b) y) x
theorem wrapN_eq (n : Nat) : wrapN n = wrapF .i64 (.ofNat n) := by
  show @Bool.rec (fun _ => Int) (wrapF .i64 (.ofNat n)) (.ofNat n) (Nat.blt n (limP .i64)) = _
  cases h : Nat.blt n (limP .i64) with
  | false => rfl
  | true => show Int.ofNat n = _; simp only [wrapF, h]
theorem add64_eq (x y : Int) : add64 x y = wrapF .i64 (addF x y) := by
  cases x <;> cases y <;> first | exact wrapN_eq _ | rfl
theorem sub64_eq (x y : Int) : sub64 x y = wrapF .i64 (subF x y) := by
  cases x <;> cases y <;> try rfl
  rename_i a b
  show @Bool.rec (fun _ => Int) (subW .i64 (.ofNat a) (.ofNat b)) (wrapN (Nat.sub a b)) (Nat.ble b a) = wrapF .i64 (match Nat.ble b a with | true => .ofNat (Nat.sub a b) | false => .negSucc (Nat.pred (Nat.sub b a)))
  cases h : Nat.ble b a with
  | true => exact wrapN_eq _
  | false =>
    show wrapF .i64 (match Nat.ble b a with | true => .ofNat (Nat.sub a b) | false => .negSucc (Nat.pred (Nat.sub b a))) = _
    rw [h]
theorem ltW_eq (x y : Int) : ltW x y = ltF x y := by cases x <;> cases y <;> rfl
theorem eqW_eq (x y : Int) : eqW x y = eqF x y := by cases x <;> cases y <;> rfl
def arW (f : Int → Int → Int) (g : IntKind → Int → Int → Int) : IntKind → Int → Int → Int
  | .i64 => f
  | kd => g kd
def isN (a : Option Addr) : Bool := @Option.rec Addr (fun _ => Bool) true (fun _ => false) a
theorem isN_eq (a : Option Addr) : isN a = a.isNone := by cases a <;> rfl

/-- One cell is read. -/
def hpK (h : Hp) (f : Tr Ob → Nat → Tr (List (Nat × Nat)) → E R) : E R := @Hp.rec (fun _ => E R) (fun a b c => f a b c) h
def blK (h : Blk) (f : Tr Value → Nat → TypeId → Nat → E R) : E R := @Blk.rec (fun _ => E R) (fun a b c d => f a b c d) h
def adK (a : Addr) (f : Nat → Nat → E R) : E R := @Addr.rec (fun _ => E R) (fun a b _ => f a b) a
def prK {α β : Type} (q : α × β) (f : α → β → E R) : E R := @Prod.rec α β (fun _ => E R) (fun a b => f a b) q
def loadS (h : Hp) (b o : Nat) (k : Value → E R) : E R :=
  hpK h fun obs _ _ => blkK (getF obs b) fun kb => blK kb fun cells size _ _ => ifK (Nat.ble (Nat.succ o) size) 4 (@Option.rec Value (fun _ => E R) (k psn) (fun v => k v) (getF cells o))
/-- One cell is written. -/
def storeS (h : Hp) (b o : Nat) (v : Value) (k : Hp → E R) : E R :=
  hpK h fun obs cnt fams => blkK (getF obs b) fun kb => blK kb fun cells size elem fam => ifK (Nat.ble (Nat.succ o) size) 5 <| ifK (okc v) 6 <|
    @Nat.rec (fun _ => E R) (k { obs := setF obs dep b (some (.cells { cells := setF cells dep o (some v), size := size, elem := elem, fam := fam })), cnt := cnt, fams := fams })
      (fun _ _ => bndF (wr h b o [v]) k) fam
def addA (a : Addr) : Nat → Addr
  | 0 => a
  | n + 1 => ⟨a.block, Nat.add a.off (n + 1), none⟩
theorem addA_eq (a : Addr) (n : Nat) : addA a n = a.add n := by
  cases n with
  | zero => simp [addA, Addr.add]
  | succ n => simp [addA, Addr.add]

theorem loadS_ok {d : TD} (hd : isAg d.desc = false) {h : Hp} {b o : Nat} {k : Value → E R} {r : R} (e : loadS h b o k = .ok r) : ∃ v, ldv d h b o = .ok v ∧ k v = .ok r := by
  have e : blkK (getF h.obs b) (fun kb => ifK (Nat.blt o kb.size) 4 (@Option.rec Value (fun _ => E R) (k psn) (fun v => k v) (getF kb.cells o))) = .ok r := e
  obtain ⟨kb, hb, e⟩ := blkK_ok e
  obtain ⟨hlt, e⟩ := ifK_ok e
  rw [getF_eq] at hb e
  have hlt := blt_true hlt
  have hle : Nat.ble (o + 1) kb.size = true := Nat.ble_eq_true_of_le hlt
  have hr : rd h b o 1 = .ok (rdc kb.cells o 1) := by
    simp only [rd, getBlk, hb, bnd, chk, hle]
  cases hg : kb.cells.get o with
  | none =>
    rw [hg] at e
    exact ⟨psn, by simp only [ldv, hd, hr, bnd, rdc_zero, rdc_succ, hg], e⟩
  | some v =>
    rw [hg] at e
    exact ⟨v, by simp only [ldv, hd, hr, bnd, rdc_zero, rdc_succ, hg], e⟩

theorem storeS_ok {h : Hp} {b o : Nat} {v : Value} {k : Hp → E R} {r : R} (e : storeS h b o v k = .ok r) : ∃ h', wr h b o [v] = .ok h' ∧ k h' = .ok r ∧ okc v = true := by
  have e : blkK (getF h.obs b) (fun kb => ifK (Nat.blt o kb.size) 5 <| ifK (okc v) 6 <|
    @Nat.rec (fun _ => E R) (k { obs := setF h.obs dep b (some (.cells { cells := setF kb.cells dep o (some v), size := kb.size, elem := kb.elem, fam := kb.fam })), cnt := h.cnt, fams := h.fams })
      (fun _ _ => bndF (wr h b o [v]) k) kb.fam) = .ok r := e
  obtain ⟨kb, hb, e⟩ := blkK_ok e
  obtain ⟨hlt, e⟩ := ifK_ok e
  obtain ⟨hok, e⟩ := ifK_ok e
  rw [getF_eq] at hb
  have hlt := blt_true hlt
  have hle : Nat.ble (o + 1) kb.size = true := Nat.ble_eq_true_of_le hlt
  have hw : wr h b o [v] = wrF h b o kb { kb with cells := kb.cells.puts o [v] } := by
    simp only [wr, getBlk, hb, bnd, List.length_cons, List.length_nil, Nat.zero_add, hle, chk, List.all_cons, hok, List.all_nil, Bool.and_self]
  cases hf : kb.fam with
  | zero =>
    rw [hf] at e
    refine ⟨_, ?_, e, hok⟩
    rw [hw]
    unfold wrF
    rw [hf]
    simp only [setF_eq, Tr.puts_nil, Tr.puts_cons, Tr.put]
  | succ n =>
    rw [hf] at e
    simp only [bndF_eq] at e
    obtain ⟨h', h1, h2⟩ := bnd_ok e
    exact ⟨h', h1, h2, hok⟩
end
end Go.Ev
