/-
  By an AI agent: a part of the proof of this claim; what is proved stands in the text YtjinlihckmgioaaGreatDoorMain.
-/
import Derived.Test.YtjinlihckmgioaaGreatDoorEvOp3
set_option linter.unusedVariables false
set_option linter.unusedSimpArgs false
set_option linter.unusedSectionVars false
set_option linter.unusedVariables false
set_option linter.unusedSimpArgs false
set_option linter.unusedSectionVars false
namespace Go.Ev
open Go

theorem VR.ptr_inv {μ : Mu} {a : Addr} {v : Value} (h : VR μ (.pointer (some a)) v) : ∃ b B o, a = ⟨b, o, none⟩ ∧ μ.m b = some B ∧ v = .pointer (some ⟨B, o, none⟩) := by
  cases h with
  | @ptr b B o h => exact ⟨b, B, o, rfl, h, rfl⟩

theorem VR.sl_inv {μ : Mu} {a : Addr} {n c : Nat} {v : Value} (h : VR μ (.slice (some a) n c) v) :
    (∃ b B o, a = ⟨b, o, none⟩ ∧ μ.m b = some B ∧ v = .slice (some ⟨B, o, none⟩) n c) ∨
    (∃ b B o e c', a = ⟨b, o, some (e + 1)⟩ ∧ μ.m b = some B ∧ c ≤ c' ∧ o + c' * (e + 1) ≤ μ.S B ∧ v = .slice (some ⟨B, o, none⟩) n c') ∨
    (∃ b o a' c', a = ⟨b, o, some 0⟩ ∧ n = 0 ∧ c = 0 ∧ a'.spot = none ∧ v = .slice (some a') 0 c') := by
  cases h with
  | @sl b B o n c h => exact .inl ⟨b, B, o, rfl, h, rfl⟩
  | @slg b B o e n c c' h hc hs => exact .inr (.inl ⟨b, B, o, e, c', rfl, h, hc, hs, rfl⟩)
  | @sle b o a' c' hsp => exact .inr (.inr ⟨b, o, a', c', rfl, rfl, rfl, hsp, rfl⟩)

theorem asN_rel {μ : Mu} {n k : Nat} {v v' : Value} (h : VR μ v v') (e : asN n v = .ok k) : ∃ q, v' = .int q (k : Int) := by
  unfold asN at e
  split at e
  · simp only [Except.ok.injEq] at e; subst e; cases h; exact ⟨_, rfl⟩
  · cases e

theorem slBound_rel {μ : Mu} {P : Program} {w : World} {v v' : Value} {y y' i : Nat} {c : BoundsCode} (h : VR μ v v') (hy : y ≤ y') (e : slBound v y = .ok i) : (Instr.sliceBound v' y' c).run P w = .ok i w ∧ i ≤ y := by
  unfold slBound at e
  obtain ⟨k, hk, e⟩ := bnd_ok e
  obtain ⟨hl, e⟩ := chk_ok e
  have hl := Nat.le_of_ble_eq_true hl
  simp only [Except.ok.injEq] at e
  subst e
  obtain ⟨q, rfl⟩ := asN_rel h hk
  refine ⟨?_, hl⟩
  have : (0 : Int) ≤ (k : Int) ∧ (k : Int) ≤ (y' : Int) := by omega
  simp [Instr.sliceBound, asIntOf, this]

inductive OptR (μ : Mu) : Option Value → Option Value → Prop
  | none : OptR μ none none
  | some {a b : Value} (h : VR μ a b) : OptR μ (some a) (some b)

theorem slBounds_rel {μ : Mu} {P : Program} {w : World} {s : Bool} {len cap cap' l hh m : Nat} {lo hi mx lo' hi' mx' : Option Value} (h1 : OptR μ lo lo') (h2 : OptR μ hi hi') (h3 : OptR μ mx mx')
    (hc : cap ≤ cap') (e : slBounds len cap lo hi mx = .ok (l, hh, m)) :
    ∃ m', (Instr.sliceBounds s len cap' lo' hi' mx').run P w = .ok (l, hh, m') w ∧ l ≤ hh ∧ hh ≤ m ∧ m ≤ cap ∧ (mx = none → m = cap ∧ m' = cap') ∧ (mx ≠ none → m' = m) := by
  unfold slBounds at e
  obtain ⟨m0, hm0, e⟩ := bnd_ok e
  obtain ⟨h0, hh0, e⟩ := bnd_ok e
  obtain ⟨l0, hl0, e⟩ := bnd_ok e
  simp only [Except.ok.injEq, Prod.mk.injEq] at e
  obtain ⟨rfl, rfl, rfl⟩ := e
  have e1 : ∃ m', (match mx' with | some v => Instr.sliceBound v cap' (if s then BoundsCode.slice3Acap else BoundsCode.slice3Alen) | none => (pure cap' : Sem Nat)).run P w = .ok m' w ∧ m0 ≤ cap ∧ m0 ≤ m' ∧ (mx = none → m0 = cap ∧ m' = cap') ∧ (mx ≠ none → m' = m0) := by
    cases h3 with
    | none => simp only [Except.ok.injEq] at hm0; subst hm0; exact ⟨cap', rfl, Nat.le_refl _, hc, fun _ => ⟨rfl, rfl⟩, fun h => absurd rfl h⟩
    | some h => obtain ⟨a, b⟩ := slBound_rel (P := P) (w := w) h hc hm0; exact ⟨m0, a, b, Nat.le_refl _, fun h => (by cases h), fun _ => rfl⟩
  obtain ⟨m', em, k1, k2, k3, k4⟩ := e1
  have e2 : (match hi', mx' with | some v, some _ => Instr.sliceBound v m' .slice3B | some v, none => Instr.sliceBound v m' (if s then BoundsCode.sliceAcap else BoundsCode.sliceAlen) | none, none => (pure len : Sem Nat) | none, some _ => stuck "Slice: max without high").run P w = .ok h0 w ∧ h0 ≤ m0 := by
    cases h2 with
    | none => cases h3 with
      | none => obtain ⟨hle, hh0⟩ := chk_ok hh0; simp only [Except.ok.injEq] at hh0; subst hh0; exact ⟨rfl, Nat.le_of_ble_eq_true hle⟩
      | some h => cases hh0
    | some h => cases h3 with
      | none => exact slBound_rel (P := P) (w := w) h k2 hh0
      | some h' => exact slBound_rel (P := P) (w := w) h k2 hh0
  obtain ⟨e2, k5⟩ := e2
  have e3 : (match lo' with | some v => Instr.sliceBound v h0 (if mx'.isSome then BoundsCode.slice3C else BoundsCode.sliceB) | none => (pure 0 : Sem Nat)).run P w = .ok l0 w ∧ l0 ≤ h0 := by
    cases h1 with
    | none => simp only [Except.ok.injEq] at hl0; subst hl0; exact ⟨rfl, Nat.zero_le _⟩
    | some h => exact slBound_rel (P := P) (w := w) h (Nat.le_refl _) hl0
  obtain ⟨e3, k6⟩ := e3
  refine ⟨m', ?_, k6, k5, k1, k3, k4⟩
  unfold Instr.sliceBounds
  clear hm0 hh0 hl0 k1 k2 k3 k4 k5 k6
  cases h3 <;> cases h2 <;> cases h1 <;> simp only [Sem.run_bind, Sem.run_pure, Result.andThen_ok, run_stuck, Result.ok.injEq, and_true, reduceCtorEq] at em e2 e3 ⊢ <;> (try subst em) <;> (try subst e2) <;> (try subst e3) <;>
    (try simp only [Option.isSome_none, Option.isSome_some, Bool.false_eq_true, if_false, if_true] at e3 ⊢) <;> (try simp only [em, Result.andThen_ok]) <;> (try simp only [e2, Result.andThen_ok]) <;> (try simp only [e3, Result.andThen_ok]) <;> (try rfl)

section
variable {P : Program} {En : Env} (hE : EnvOk P En) {id base : Nat} {μ : Mu} {h : Hp} {w : World} (hr : HW μ base h w)
  (hb : base ≤ w.heap.size) (hid : id < h.cnt) (hm : μ.m id = none) {tm : Tr Value} {ρ : Operand → Value}
include hE hr hb hid hm

omit hE hr hb hid hm in
theorem optR {x : Option Operand} (hx : ∀ y, x = some y → VR μ (evo tm y) (ρ y)) : OptR μ (x.map (evo tm)) (x.map ρ) := by
  cases x with
  | none => exact .none
  | some y => exact .some (hx y rfl)

theorem sim_unOp {o : Oper} {t : TypeId} {op : UnOp} {x : Operand} (ho : o.op = .unOp op t x) (hx : VR μ (evo tm x) (ρ x)) {rs : Rs} (e : c_unOp En id tm h op x = .ok rs) : Sim P id base μ h w rs ((execOp ρ o).run P w) := by
  unfold c_unOp at e
  generalize evo tm x = vx at hx e
  generalize hra : ρ x = rx at hx
  split at e
  · cases hx
    rename_i b
    simp only [Except.ok.injEq] at e; subst e
    have : (execOp ρ o).run P w = .ok (.value (.bool !b)) w := by simp only [execOp, ho, hra, Op.unary, Sem.run_bind, Sem.run_pure, Result.andThen]
    rw [this]; exact Did.same hr (.bool _)
  · cases hx
    obtain ⟨v, hv, e⟩ := bnd_ok e
    simp only [Except.ok.injEq] at e; subst e
    have h1 := pureOf_ok hv
    have : (execOp ρ o).run P w = .ok (.value v) w := by simp [execOp, ho, hra, Op.unary, h1]
    rw [this]
    simp only [Op.intArith] at h1
    injection h1 with h1
    subst h1
    exact Did.same hr (.int _ _)
  · cases hx
    obtain ⟨v, hv, e⟩ := bnd_ok e
    simp only [Except.ok.injEq] at e; subst e
    have h1 := pureOf_ok hv
    have : (execOp ρ o).run P w = .ok (.value v) w := by simp [execOp, ho, hra, Op.unary, h1]
    rw [this]
    simp only [Op.intBits] at h1
    injection h1 with h1
    subst h1
    exact Did.same hr (.int _ _)
  · cases e

theorem sim_makeFunc {o : Oper} {fn : Fn} {first captured : Array Operand} (ho : o.op = .makeFunc fn first captured) (hx : ∀ x ∈ first.toList ++ captured.toList, VR μ (evo tm x) (ρ x)) {rs : Rs} (e : c_makeFunc En id tm h fn first captured = .ok rs) :
    Sim P id base μ h w rs ((execOp ρ o).run P w) := by
  unfold c_makeFunc at e
  cases fn with
  | func f =>
    simp only [Except.ok.injEq] at e; subst e
    have : (execOp ρ o).run P w = .ok (.value (.func (.func f) (first.map ρ) (captured.map ρ))) w := by simp [execOp, ho, Instr.makeFunc]
    rw [this]
    refine Did.same hr (.func f ?_ ?_)
    · simp only [List.toList_toArray, Array.toList_map]
      exact VRL.map _ fun x hx' => hx x (by simp [hx'])
    · simp only [List.toList_toArray, Array.toList_map]
      exact VRL.map _ fun x hx' => hx x (by simp [hx'])
  | _ => cases e

theorem sim_makeSlice {o : Oper} {t : TypeId} {l c : Operand} (ho : o.op = .makeSlice t l c) (hl : VR μ (evo tm l) (ρ l)) (hc : VR μ (evo tm c) (ρ c)) {rs : Rs} (e : c_makeSlice En id tm h t l c = .ok rs) :
    Sim P id base μ h w rs ((execOp ρ o).run P w) := by
  unfold c_makeSlice at e
  obtain ⟨d, hd, e⟩ := bnd_ok e
  have hT := hE.ty (opt_ok hd)
  split at e
  · rename_i et hdd
    obtain ⟨de, hde, e⟩ := bnd_ok e
    have hTe := hE.ty (opt_ok hde)
    obtain ⟨ln, hln, e⟩ := bnd_ok e
    obtain ⟨cn, hcn, e⟩ := bnd_ok e
    obtain ⟨hchk, e⟩ := chk_ok e
    obtain ⟨ob, hob, e⟩ := bnd_ok e
    simp only [Except.ok.injEq] at e; subst e
    simp only [Bool.and_eq_true] at hchk
    have h1 := Nat.le_of_ble_eq_true hchk.1.1
    have h2 := blt_true hchk.1.2
    have h3 := blt_true hchk.2
    obtain ⟨q1, e1⟩ := asN_rel hl hln
    obtain ⟨q2, e2⟩ := asN_rel hc hcn
    obtain ⟨i, hi, i1, i2, i3⟩ := hTe.runInfo
    obtain ⟨g1, g2⟩ := new_cells (P := P) hr hb hid hm (repl_rel μ hTe.plain cn) hob
    have hbig : bigSize = 100000000 := rfl
    have wl : IntKind.i64.wrap (ln : Int) = ln := limP_wrap (k := .i64) (by simp only [limP]; omega)
    have wc : IntKind.i64.wrap (cn : Int) = cn := limP_wrap (k := .i64) (by simp only [limP]; omega)
    have hz : (Array.range (cn * de.size)).map (fun i : Nat => de.zv.cells[i % de.zv.cells.size]!) = (repl de.zero cn).toArray := by
      have := range_repl (z := de.zv.cells) (n := cn) (m := cn * de.size) (by have := hTe.len; rw [← hTe.cells] at this; simp at this; rw [this])
      rw [hTe.cells] at this
      rw [← this]
    have hcond : ¬ ((((i.bytes : Int) * (cn : Int)) > 2 ^ 48)) := by
      rw [i2]
      have : ((de.bytes : Int) * (cn : Int)) = ((cn * de.bytes : Nat) : Int) := by rw [Nat.mul_comm]; simp
      rw [this]; omega
    have : (execOp ρ o).run P w = .ok (.value (.slice (some ⟨w.heap.size, 0, none⟩) ln cn)) (w.alloc (.cells (repl de.zero cn).toArray et)) := by
      have n1 : ¬ ((cn : Int) < 0) := by omega
      have n2 : ¬ ((ln : Int) < 0) := by omega
      have n3 : ¬ ((ln : Int) > (cn : Int)) := by omega
      simp only [execOp, ho, e1, e2, Instr.makeSlice, Sem.run_bind, hT.runUnder, hdd, Result.andThen_ok, asInt, asIntOf, Sem.run_pure, hi, wl, wc]
      simp only [n1, n2, n3, hcond, decide_false, Bool.or_false, Bool.or_self, Bool.false_eq_true, false_or, or_self, if_false, Sem.run_bind, run_askRoom, Result.andThen_ok, Int.toNat_natCast, hTe.runSize]
      by_cases hn : cn * de.size = 0
      · simp only [hn, if_true, Sem.run_bind, Sem.run_pure, Result.andThen_ok, newRow, run_newObj]
        have : (repl de.zero cn).toArray = #[] := by
          have := repl_length de.zero cn
          rw [hTe.len, hn] at this
          have := List.length_eq_zero_iff.1 this
          rw [this]
        have ha : (Array.map (fun i : Nat => (#[] : Array Value)[i % (#[] : Array Value).size]!) (Array.range 0)) = #[] := by simp [Array.range]
        rw [this, ha]
        rfl
      · simp only [hn, if_false, Sem.run_bind, hTe.runZero, Sem.run_pure, Result.andThen_ok, newRow, run_newObj]
        rw [hz]
        rfl
    rw [this]
    exact ⟨_, _, _, rfl, .inl ⟨_, rfl, .sl 0 ln cn (by simp [Mu.add])⟩, g1, g2⟩
  · cases e

omit hE hr hb hid hm in
theorem partC_run {t : TypeId} {d : TD} (hT : TyOk P t d) {cs : List Value} {cs' : Array Value} (hc : VRL μ cs cs'.toList) {off : Nat} {v : Value} (e : partC d cs off = .ok v) : ∃ v', (part t cs' off).run P w = .ok v' w ∧ VR μ v v' := by
  unfold partC at e
  have hl := hc.length
  simp only [Array.length_toList] at hl
  cases ha : isAg d.desc with
  | true =>
    rw [ha] at e
    obtain ⟨h1, e⟩ := chk_ok e
    have h1 := Nat.le_of_ble_eq_true h1
    simp only [Except.ok.injEq] at e; subst e
    refine ⟨.agg (cs'.extract off (off + d.size)), ?_, .agg ?_⟩
    · simp only [part, Sem.run_bind, hT.runAgg, Result.andThen_ok, ha, if_true, hT.runSize, Sem.run_pure]
    · rw [List.toList_toArray]
      have : (cs'.extract off (off + d.size)).toList = (cs'.toList.drop off).take d.size := by
        rw [Array.toList_extract, List.extract_eq_take_drop]; congr 1; omega
      rw [this]
      exact (hc.drop off).take d.size
  | false =>
    rw [ha] at e
    have e := opt_ok e
    rcases hc.get off with ⟨e1, _⟩ | ⟨x, y, e1, e2, hxy⟩
    · rw [List.head?_drop, e1] at e; cases e
    · rw [List.head?_drop, e1] at e; cases e
      rw [Array.getElem?_toList] at e2
      refine ⟨y, ?_, hxy⟩
      simp only [part, Sem.run_bind, hT.runAgg, Result.andThen_ok, ha, Bool.false_eq_true, if_false, e2, Sem.run_pure]

theorem struOf_ok {t : TypeId} {f : Nat} {fd : Field} (e : struOf En t f = .ok fd) : ∃ d fs, TyOk P t d ∧ d.desc = .struct fs ∧ fs[f]? = some fd := by
  unfold struOf at e
  obtain ⟨d, hd, e⟩ := bnd_ok e
  have hT := hE.ty (opt_ok hd)
  split at e
  · rename_i fs hdd
    exact ⟨d, fs, hT, hdd, opt_ok e⟩
  · cases e

theorem sim_fieldAddr {o : Oper} {t : TypeId} {x : Operand} {f : Nat} (ho : o.op = .fieldAddr t x f) (hx : VR μ (evo tm x) (ρ x)) {rs : Rs} (e : c_fieldAddr En id tm h t x f = .ok rs) : Sim P id base μ h w rs ((execOp ρ o).run P w) := by
  unfold c_fieldAddr at e
  obtain ⟨fd, hfd, e⟩ := bnd_ok e
  obtain ⟨d, fs, hT, hdd, hfs⟩ := struOf_ok hE hr hb hid hm hfd
  obtain ⟨df, hdf, e⟩ := bnd_ok e
  have hTf := hE.ty (opt_ok hdf)
  generalize evo tm x = vx at hx e
  generalize hra : ρ x = rx at hx
  cases hx <;> (try simp only [reduceCtorEq] at e)
  rename_i b B off hbB
  obtain ⟨hs, e⟩ := chk_ok e
  have hs := blt_true hs
  simp only [Except.ok.injEq, add_eq] at e; subst e
  have : (execOp ρ o).run P w = .ok (.value (.pointer (some ⟨B, off + fd.offset, none⟩))) w := by
    have h0 : ¬ df.size = 0 := by omega
    simp [execOp, ho, hra, Instr.fieldAt, hT.runUnder, hdd, hfs, Instr.sureAddr, fieldPlace, hTf.runSize, h0, add_eq]
  rw [this]; exact Did.same hr (.ptr _ hbB)

theorem sim_field {o : Oper} {t : TypeId} {x : Operand} {f : Nat} (ho : o.op = .field t x f) (hx : VR μ (evo tm x) (ρ x)) {rs : Rs} (e : c_field En id tm h t x f = .ok rs) : Sim P id base μ h w rs ((execOp ρ o).run P w) := by
  unfold c_field at e
  obtain ⟨fd, hfd, e⟩ := bnd_ok e
  obtain ⟨d, fs, hT, hdd, hfs⟩ := struOf_ok hE hr hb hid hm hfd
  obtain ⟨df, hdf, e⟩ := bnd_ok e
  have hTf := hE.ty (opt_ok hdf)
  generalize evo tm x = vx at hx e
  generalize hra : ρ x = rx at hx
  cases hx <;> (try simp only [reduceCtorEq] at e)
  rename_i cs cs' hcs
  obtain ⟨v, hv, e⟩ := bnd_ok e
  simp only [Except.ok.injEq] at e; subst e
  obtain ⟨v', hrun, hvr⟩ := partC_run (w := w) hTf hcs hv
  have : (execOp ρ o).run P w = .ok (.value v') w := by
    simp [execOp, ho, hra, Instr.field, hT.runUnder, hdd, hfs, asAgg, hrun]
  rw [this]; exact Did.same hr hvr

theorem sim_indexAddr {o : Oper} {t : TypeId} {x i : Operand} (ho : o.op = .indexAddr t x i) (hx : VR μ (evo tm x) (ρ x)) (hi : VR μ (evo tm i) (ρ i)) {rs : Rs} (e : c_indexAddr En id tm h t x i = .ok rs) : Sim P id base μ h w rs ((execOp ρ o).run P w) := by
  unfold c_indexAddr at e
  obtain ⟨d, hd, e⟩ := bnd_ok e
  have hT := hE.ty (opt_ok hd)
  obtain ⟨n, hn, e⟩ := bnd_ok e
  obtain ⟨q, hq⟩ := asN_rel hi hn
  generalize evo tm x = vx at hx e
  generalize hra : ρ x = rx at hx
  split at e
  · rename_i len et a hdd
    obtain ⟨de, hde, e⟩ := bnd_ok e
    have hTe := hE.ty (opt_ok hde)
    obtain ⟨hl, e⟩ := chk_ok e
    have hl := blt_true hl
    simp only [Except.ok.injEq] at e; subst e
    obtain ⟨b, B, off, rfl, hbB, rfl⟩ := hx.ptr_inv
    have hin : (0 : Int) ≤ (n : Int) ∧ (n : Int) < (len : Int) := by omega
    have : (execOp ρ o).run P w = .ok (.value (.pointer (some ⟨B, off + n * de.size, none⟩))) w := by
      simp [execOp, ho, hra, hq, Instr.indexAt, asIntOf, hT.runUnder, hdd, Instr.sureAddr, hin, hl, hTe.runSize, add_eq]
    rw [this, add_eq]; exact Did.same hr (.ptr _ hbB)
  · rename_i et a len cap hdd
    obtain ⟨de, hde, e⟩ := bnd_ok e
    have hTe := hE.ty (opt_ok hde)
    obtain ⟨hl, e⟩ := chk_ok e
    have hl := blt_true hl
    simp only [Except.ok.injEq] at e; subst e
    have hin : (0 : Int) ≤ (n : Int) ∧ (n : Int) < (len : Int) := by omega
    rcases hx.sl_inv with ⟨b, B, off, rfl, hbB, rfl⟩ | ⟨b, B, off, es, c', rfl, hbB, hc, hs, rfl⟩ | ⟨b, off, a', c', rfl, rfl, rfl, hsp, rfl⟩
    · have : (execOp ρ o).run P w = .ok (.value (.pointer (some ⟨B, off + n * de.size, none⟩))) w := by
        simp [execOp, ho, hra, hq, Instr.indexAt, asIntOf, hT.runUnder, hdd, hin, hl, hTe.runSize, add_eq]
      rw [this]; exact Did.same hr (.ptr _ hbB)
    · have : (execOp ρ o).run P w = .ok (.value (.pointer (some ⟨B, off + n * de.size, none⟩))) w := by
        simp [execOp, ho, hra, hq, Instr.indexAt, asIntOf, hT.runUnder, hdd, hin, hl, hTe.runSize, add_eq]
      rw [this]; exact Did.same hr (.ptr _ hbB)
    · omega
  · cases e

theorem sim_index {o : Oper} {t : TypeId} {x i : Operand} (ho : o.op = .index t x i) (hx : VR μ (evo tm x) (ρ x)) (hi : VR μ (evo tm i) (ρ i)) {rs : Rs} (e : c_index En id tm h t x i = .ok rs) : Sim P id base μ h w rs ((execOp ρ o).run P w) := by
  unfold c_index at e
  obtain ⟨d, hd, e⟩ := bnd_ok e
  have hT := hE.ty (opt_ok hd)
  obtain ⟨n, hn, e⟩ := bnd_ok e
  obtain ⟨q, hq⟩ := asN_rel hi hn
  generalize evo tm x = vx at hx e
  generalize hra : ρ x = rx at hx
  split at e
  · rename_i len et cs hdd
    obtain ⟨de, hde, e⟩ := bnd_ok e
    have hTe := hE.ty (opt_ok hde)
    obtain ⟨hl, e⟩ := chk_ok e
    have hl := blt_true hl
    obtain ⟨v, hv, e⟩ := bnd_ok e
    simp only [Except.ok.injEq] at e; subst e
    cases hx
    rename_i cs' hcs
    have hin : (0 : Int) ≤ (n : Int) ∧ (n : Int) < (len : Int) := by omega
    obtain ⟨v', hrun, hvr⟩ := partC_run (w := w) hTe hcs hv
    have : (execOp ρ o).run P w = .ok (.value v') w := by
      simp [execOp, ho, hra, hq, Instr.index, asIntOf, hT.runUnder, hdd, hin, hl, hTe.runSize, hrun]
    rw [this]; exact Did.same hr hvr
  · rename_i s hdd
    split at e
    · rename_i b hsb
      simp only [Except.ok.injEq] at e; subst e
      cases hx
      have : (execOp ρ o).run P w = .ok (.value (.int .u8 b.toNat)) w := by
        simp [execOp, ho, hra, hq, Instr.index, asIntOf, hT.runUnder, hdd, hsb]
      rw [this]; exact Did.same hr (.int _ _)
    · cases e
  · cases e

theorem sim_extract {o : Oper} {t : Operand} {i : Nat} (ho : o.op = .extract t i) (hx : VR μ (evo tm t) (ρ t)) {rs : Rs} (e : c_extract En id tm h t i = .ok rs) : Sim P id base μ h w rs ((execOp ρ o).run P w) := by
  unfold c_extract at e
  generalize evo tm t = vx at hx e
  generalize hra : ρ t = rx at hx
  cases hx <;> (try simp only [reduceCtorEq] at e)
  rename_i cs cs' hcs
  obtain ⟨v, hv, e⟩ := bnd_ok e
  simp only [Except.ok.injEq] at e; subst e
  have hv := opt_ok hv
  rcases hcs.get i with ⟨e1, _⟩ | ⟨x, y, e1, e2, hxy⟩
  · rw [Array.getElem?_toList, hv] at e1; cases e1
  · rw [Array.getElem?_toList, hv] at e1; cases e1
    rw [Array.getElem?_toList] at e2
    have : (execOp ρ o).run P w = .ok (.value y) w := by
      simp [execOp, ho, hra, Instr.extract, e2]
    rw [this]; exact Did.same hr hxy
end
end Go.Ev
