/-
  By an AI agent: a part of the proof of this claim; what is proved stands in the text YtjinlihckmgioaaGreatDoorMain.
-/
import Derived.Test.YtjinlihckmgioaaGreatDoorEvOp1
set_option linter.unusedVariables false
set_option linter.unusedSimpArgs false
set_option linter.unusedSectionVars false
set_option linter.unusedVariables false
set_option linter.unusedSimpArgs false
namespace Go.Ev
open Go

theorem blt_true {a b : Nat} (h : Nat.blt a b = true) : a < b := by
  unfold Nat.blt at h; exact Nat.le_of_ble_eq_true h
theorem blt_false {a b : Nat} (h : Nat.blt a b = false) : b ≤ a := by
  rcases Nat.lt_or_ge a b with h2 | h2
  · have : Nat.blt a b = true := by unfold Nat.blt; exact Nat.ble_eq_true_of_le h2
    rw [h] at this; cases this
  · exact h2
theorem blt_iff {a b : Nat} : Nat.blt a b = decide (a < b) := by
  cases h : Nat.blt a b with
  | true => simp [blt_true h]
  | false => simp [blt_false h]
theorem beq_iff {a b : Nat} : Nat.beq a b = decide (a = b) := by
  cases h : Nat.beq a b with
  | true => simp [Nat.eq_of_beq_eq_true h]
  | false => have := Nat.ne_of_beq_eq_false h; simp [this]
theorem ble_iff {a b : Nat} : Nat.ble a b = decide (a ≤ b) := by
  cases h : Nat.ble a b with
  | true => simp [Nat.le_of_ble_eq_true h]
  | false => have := Nat.not_le_of_not_ble_eq_true (by simp [h] : ¬ Nat.ble a b = true); simp; omega

theorem sameK_eq {a b : IntKind} (h : sameK a b = true) : a = b := by
  cases a <;> cases b <;> first | rfl | (exfalso; revert h; decide)

theorem wrapF_eq (k : IntKind) (n : Int) : wrapF k n = k.wrap n := by
  unfold wrapF
  cases n with
  | ofNat m =>
    simp only
    split
    · rename_i h
      have h := blt_true h
      cases k <;> simp only [limP] at h <;> simp only [IntKind.wrap, IntKind.bits, IntKind.signed] <;>
        (rw [show (Int.ofNat m) = (m : Int) from rfl]; simp <;> omega)
    · rfl
  | negSucc m =>
    simp only
    split
    · rename_i h
      have h := blt_true h
      cases k <;> simp only [limN] at h <;> (try omega) <;> simp only [IntKind.wrap, IntKind.bits, IntKind.signed] <;>
        (rw [Int.negSucc_eq]; simp <;> omega)
    · rfl

theorem addF_eq (a b : Int) : addF a b = a + b := by
  cases a <;> cases b <;> rfl
theorem mulF_eq (a b : Int) : mulF a b = a * b := by
  cases a <;> cases b <;> rfl
theorem subF_eq (a b : Int) : subF a b = a - b := by
  cases a with
  | ofNat a =>
    cases b with
    | ofNat b =>
      simp only [subF]
      split
      · rename_i h
        have h := Nat.le_of_ble_eq_true h
        show Int.ofNat (a - b) = _
        simp only [Int.ofNat_eq_natCast]; omega
      · rename_i h
        rw [ble_iff] at h
        have h : ¬ b ≤ a := by simpa using h
        show Int.negSucc (Nat.pred (b - a)) = _
        rw [Int.negSucc_eq]
        simp only [Int.ofNat_eq_natCast, Nat.pred_eq_sub_one]; omega
    | negSucc b => rfl
  | negSucc a => cases b <;> rfl
theorem ltF_eq (a b : Int) : ltF a b = decide (a < b) := by
  cases a <;> cases b <;> simp only [ltF, blt_iff] <;> rw [Bool.eq_iff_iff] <;> simp <;> omega
theorem eqF_eq (a b : Int) : eqF a b = (a == b) := by
  cases a <;> cases b <;> simp only [eqF, beq_iff] <;> rw [Bool.eq_iff_iff] <;> simp <;> omega

theorem pureOf_ok {n : Nat} {s : Sem Value} {v : Value} (h : pureOf n s = .ok v) : s = .pure v := by
  cases s <;> simp [pureOf] at h
  rw [h]

theorem limP_bits (k : IntKind) : limP k ≤ 2 ^ k.bits := by cases k <;> decide
theorem limP_wrap {k : IntKind} {m : Nat} (h : m < limP k) : k.wrap (m : Int) = m := by
  have := wrapF_eq k (Int.ofNat m)
  unfold wrapF at this
  have h2 : Nat.blt m (limP k) = true := by rw [blt_iff]; simp [h]
  simp only [h2] at this
  exact this.symm

/-- The integer operations, as the model has them. -/
theorem intF_run (P : Program) (op : BinOp) (k k' : IntKind) (a b : Int) (v : Value) (t : TypeId) (w : World) (h : intF op k a b = .ok v) (hk : k = k' ∨ isShift op = true) :
    (binOp op t (.int k a) (.int k' b)).run P w = .ok v w := by
  cases op <;> simp only [intF, Except.ok.injEq, reduceCtorEq] at h
  case add => obtain rfl : k = k' := hk.resolve_right (by decide); subst h; simp [binOp, Op.intArith, wrapF_eq, addF_eq]
  case sub => obtain rfl : k = k' := hk.resolve_right (by decide); subst h; simp [binOp, Op.intArith, wrapF_eq, subF_eq]
  case mul => obtain rfl : k = k' := hk.resolve_right (by decide); subst h; simp [binOp, Op.intArith, wrapF_eq, mulF_eq]
  case lss => obtain rfl : k = k' := hk.resolve_right (by decide); subst h; simp [binOp, Op.intCmp, ltF_eq]
  case gtr => obtain rfl : k = k' := hk.resolve_right (by decide); subst h; simp [binOp, Op.intCmp, ltF_eq]
  case leq =>
    obtain rfl : k = k' := hk.resolve_right (by decide); subst h
    simp only [binOp, Op.intCmp, ltF_eq, ne_eq, not_true_eq_false, if_false, Sem.run_pure]
    congr 2; rw [Bool.eq_iff_iff]; simp
  case geq =>
    obtain rfl : k = k' := hk.resolve_right (by decide); subst h
    simp only [binOp, Op.intCmp, ltF_eq, ne_eq, not_true_eq_false, if_false, Sem.run_pure]
    congr 2; rw [Bool.eq_iff_iff]; simp
  case eql => obtain rfl : k = k' := hk.resolve_right (by decide); subst h; simp [binOp, Op.intCmp, eqF_eq]
  case neq =>
    obtain rfl : k = k' := hk.resolve_right (by decide); subst h
    simp [binOp, Op.intCmp, eqF_eq, bne]
  case quo =>
    obtain rfl : k = k' := hk.resolve_right (by decide)
    simp only [binOp, ne_eq, not_true_eq_false, if_false]
    split at h
    · rename_i x y
      split at h
      · cases h
      · rename_i hy
        rw [beq_iff] at hy
        have hy : y ≠ 0 := by simpa using hy
        simp only [Except.ok.injEq] at h
        subst h
        have h0 : ¬ (Int.ofNat y = 0) := by simp only [Int.ofNat_eq_natCast]; omega
        simp only [Op.intDiv, h0, if_false, Sem.run_pure, wrapF_eq]
        rfl
    · rw [pureOf_ok h]; rfl
  case rem =>
    obtain rfl : k = k' := hk.resolve_right (by decide)
    simp only [binOp, ne_eq, not_true_eq_false, if_false]
    split at h
    · rename_i x y
      split at h
      · cases h
      · rename_i hy
        rw [beq_iff] at hy
        have hy : y ≠ 0 := by simpa using hy
        simp only [Except.ok.injEq] at h
        subst h
        have h0 : ¬ (Int.ofNat y = 0) := by simp only [Int.ofNat_eq_natCast]; omega
        simp only [Op.intDiv, h0, if_false, Sem.run_pure]
        rfl
    · rw [pureOf_ok h]; rfl
  case and =>
    obtain rfl : k = k' := hk.resolve_right (by decide)
    simp only [binOp, ne_eq, not_true_eq_false, if_false]
    split at h
    · rename_i x y
      split at h
      · rename_i hb
        simp only [Bool.and_eq_true] at hb
        have hx := blt_true hb.1
        have hy := blt_true hb.2
        simp only [Except.ok.injEq] at h
        subst h
        have hl := limP_bits k
        have hxy : x &&& y < limP k := Nat.lt_of_le_of_lt Nat.and_le_left hx
        have e : (BitVec.ofInt k.bits (Int.ofNat x) &&& BitVec.ofInt k.bits (Int.ofNat y)).toNat = x &&& y := by
          rw [BitVec.toNat_and]
          simp only [Int.ofNat_eq_natCast, BitVec.ofInt_natCast, BitVec.toNat_ofNat]
          rw [Nat.mod_eq_of_lt (by omega), Nat.mod_eq_of_lt (by omega)]
        simp only [Op.intBits, Sem.run_pure, e, limP_wrap hxy]
        rfl
      · rw [pureOf_ok h]; rfl
    · rw [pureOf_ok h]; rfl
  case or =>
    obtain rfl : k = k' := hk.resolve_right (by decide)
    simp only [binOp, ne_eq, not_true_eq_false, if_false]
    split at h
    · rename_i x y
      split at h
      · rename_i hb
        simp only [Bool.and_eq_true] at hb
        have hx := blt_true hb.1
        have hy := blt_true hb.2
        simp only [Except.ok.injEq] at h
        subst h
        have hl := limP_bits k
        have hxy : x ||| y < limP k := by
          obtain ⟨n, hn⟩ : ∃ n, limP k = 2 ^ n := by match k with | .i8 => exact ⟨7, rfl⟩ | .i16 => exact ⟨15, rfl⟩ | .i32 => exact ⟨31, rfl⟩ | .i64 => exact ⟨63, rfl⟩ | .u8 => exact ⟨8, rfl⟩ | .u16 => exact ⟨16, rfl⟩ | .u32 => exact ⟨32, rfl⟩ | .u64 => exact ⟨64, rfl⟩
          rw [hn] at hx hy ⊢
          exact Nat.or_lt_two_pow hx hy
        have e : (BitVec.ofInt k.bits (Int.ofNat x) ||| BitVec.ofInt k.bits (Int.ofNat y)).toNat = x ||| y := by
          rw [BitVec.toNat_or]
          simp only [Int.ofNat_eq_natCast, BitVec.ofInt_natCast, BitVec.toNat_ofNat]
          rw [Nat.mod_eq_of_lt (by omega), Nat.mod_eq_of_lt (by omega)]
        simp only [Op.intBits, Sem.run_pure, e, limP_wrap hxy]
        rfl
      · rw [pureOf_ok h]; rfl
    · rw [pureOf_ok h]; rfl
  case xor => obtain rfl : k = k' := hk.resolve_right (by decide); simp only [binOp, ne_eq, not_true_eq_false, if_false]; rw [pureOf_ok h]; rfl
  case andNot => obtain rfl : k = k' := hk.resolve_right (by decide); simp only [binOp, ne_eq, not_true_eq_false, if_false]; rw [pureOf_ok h]; rfl
  case shl =>
    have hs : ∀ yk yk', Op.shift .shl k a yk b = Op.shift .shl k a yk' b := fun _ _ => rfl
    simp only [binOp]
    rw [hs k' .i64]
    split at h
    · rename_i x y
      split at h
      · rename_i hb
        simp only [Bool.and_eq_true] at hb
        have hx := blt_true hb.1
        have hy := blt_true hb.2
        simp only [Except.ok.injEq] at h
        subst h
        have h0 : ¬ (Int.ofNat y < 0) := by simp only [Int.ofNat_eq_natCast]; omega
        simp only [Op.shift, h0, if_false, Sem.run_pure]
        by_cases hz : x = 0
        · subst hz
          have hw : k.wrap 0 = 0 := by cases k <;> decide
          simp [hw, Nat.mul]
        · have hbits : y ≤ k.bits := by
            have h1 : x * 2 ^ y < limP k := hy
            have h2 := limP_bits k
            have h3 : 2 ^ y ≤ x * 2 ^ y := Nat.le_mul_of_pos_left _ (by omega)
            have : 2 ^ y < 2 ^ k.bits := by omega
            exact Nat.le_of_lt ((Nat.pow_lt_pow_iff_right (by omega)).1 this)
          have em : min (Int.ofNat y).toNat k.bits = y := by simp; omega
          have e2 : (Int.ofNat x : Int) * 2 ^ y = ((x * 2 ^ y : Nat) : Int) := by simp
          have hy' : x * 2 ^ y < limP k := hy
          rw [em, e2, limP_wrap hy']
          rfl
      · rw [pureOf_ok h]; rfl
    · rw [pureOf_ok h]; rfl
  case shr =>
    have hs : ∀ yk yk', Op.shift .shr k a yk b = Op.shift .shr k a yk' b := fun _ _ => rfl
    simp only [binOp]
    rw [hs k' .i64]
    split at h
    · rename_i x y
      split at h
      · rename_i hb
        have hb := blt_true hb
        simp only [Except.ok.injEq] at h
        subst h
        have h0 : ¬ (Int.ofNat y < 0) := by simp only [Int.ofNat_eq_natCast]; omega
        simp only [Op.shift, h0, if_false, Sem.run_pure]
        have hbits : y ≤ k.bits := by
          have : (limP k).log2 ≤ k.bits := by cases k <;> decide
          omega
        have em : min (Int.ofNat y).toNat k.bits = y := by simp; omega
        rw [em]
        have e2 : (Int.ofNat x : Int).fdiv (2 ^ y) = ((x / 2 ^ y : Nat) : Int) := by
          rw [Int.fdiv_eq_ediv_of_nonneg _ (by exact Int.le_of_lt (Int.pow_pos (by decide)))]
          simp
        rw [e2]
        rfl
      · rw [pureOf_ok h]; rfl
    · rw [pureOf_ok h]; rfl
end Go.Ev
