/-
  By an AI agent: a part of the proof of this claim; what is proved stands in the text YtjinlihckmgioaaGreatDoorMain.
-/
import Derived.Test.YtjinlihckmgioaaGreatDoorEvOp6
set_option linter.unusedVariables false
set_option linter.unusedSimpArgs false
set_option linter.unusedSectionVars false
set_option linter.unusedVariables false
set_option linter.unusedSimpArgs false
set_option linter.unusedSectionVars false
namespace Go.Ev
open Go

theorem HR.heap {μ : Mu} {base : Nat} {h : Hp} {w w' : World} (hr : HR μ base h w) (e : w'.heap = w.heap) : HR μ base h w' :=
  ⟨fun a b => by rw [e]; exact hr.ob a b, hr.grp, hr.inj, hr.fam, hr.cnt, hr.old, fun a => by rw [e]; exact hr.oldm a⟩
theorem HW.heap {μ : Mu} {base : Nat} {h : Hp} {w w' : World} (hr : HW μ base h w) (e : w'.heap = w.heap) : HW μ base h w' := ⟨hr.toHR.heap e, hr.fo⟩

theorem lenC_rel {μ : Mu} {P : Program} {w : World} {x x' : Value} {n : Nat} (hx : VR μ x x') (e : lenC x = .ok n) : (Builtin.lenOf x').run P w = .ok n w := by
  unfold lenC at e
  cases hx <;> simp only [reduceCtorEq, Except.ok.injEq] at e <;> subst e <;> rfl

theorem firstC_rel {μ : Mu} {P : Program} {base : Nat} {h : Hp} {w : World} (hr : HW μ base h w) {x x' : Value} {size n m : Nat} {cs : List Value} (hx : VR μ x x') (hn : lenC x = .ok m) (hnm : n ≤ m) (e : firstC h size n x = .ok cs) :
    ∃ cs' : Array Value, (Builtin.firstCells size n x').run P w = .ok cs' w ∧ VRL μ cs cs'.toList := by
  cases hx with
  | string s =>
    simp only [firstC] at e
    obtain ⟨h1, e1⟩ := chk_ok e
    simp only [Except.ok.injEq] at e1; subst e1
    refine ⟨_, rfl, ?_⟩
    have : ((s.extract 0 n).data.map fun b => Value.int .u8 b.toNat).toList = (s.data.toList.take n).map fun b => Value.int .u8 b.toNat := by
      rw [Array.toList_map, ByteArray.data_extract, Array.toList_extract]
      simp [List.extract_eq_take_drop]
    rw [this]
    exact VRL.map _ fun b _ => .int _ _
  | sl0 l c =>
    simp only [firstC] at e
    obtain ⟨h1, e1⟩ := chk_ok e
    simp only [Except.ok.injEq] at e1; subst e1
    exact ⟨#[], rfl, .nil⟩
  | @sl b B o l c hbB =>
    simp only [firstC] at e
    unfold rd at e
    obtain ⟨k, hk, e1⟩ := bnd_ok e
    obtain ⟨hl, e2⟩ := chk_ok e1
    have hl : o + n * size ≤ k.size := Nat.le_of_ble_eq_true hl
    simp only [Except.ok.injEq] at e2; subst e2
    obtain ⟨ob, hob, hR⟩ := hr.ob (getBlk_ok hk) hbB
    cases ob with
    | cells cc el fr =>
      simp only [ObR] at hR
      refine ⟨cc.extract o (o + n * size), ?_, rdc_rel hR.2 _ _ hl⟩
      simp only [Builtin.firstCells]
      rw [run_loadCells' P hob (by have := hR.2.2.1; omega)]
    | _ => simp [ObR] at hR
  | @slg b B o es l c c' hbB hc hs =>
    simp only [firstC] at e
    unfold rd at e
    obtain ⟨k, hk, e1⟩ := bnd_ok e
    obtain ⟨hl, e2⟩ := chk_ok e1
    have hl : o + n * size ≤ k.size := Nat.le_of_ble_eq_true hl
    simp only [Except.ok.injEq] at e2; subst e2
    obtain ⟨ob, hob, hR⟩ := hr.ob (getBlk_ok hk) hbB
    cases ob with
    | cells cc el fr =>
      simp only [ObR] at hR
      refine ⟨cc.extract o (o + n * size), ?_, rdc_rel hR.2 _ _ hl⟩
      simp only [Builtin.firstCells]
      rw [run_loadCells' P hob (by have := hR.2.2.1; omega)]
    | _ => simp [ObR] at hR
  | @sle b o a' c' hsp =>
    simp only [lenC, Except.ok.injEq] at hn
    have hn0 : n = 0 := by omega
    subst hn0
    simp only [firstC] at e
    unfold rd at e
    obtain ⟨k, hk, e1⟩ := bnd_ok e
    obtain ⟨hl, e2⟩ := chk_ok e1
    simp only [Except.ok.injEq, Nat.zero_mul, rdc_zero, rdc_succ] at e2; subst e2
    exact ⟨#[], by simp [Builtin.firstCells, loadCells, loadCellsFrom], .nil⟩
  | _ => simp only [firstC, reduceCtorEq] at e

theorem rdc_length (t : Tr Value) : ∀ (n o : Nat), (rdc t o n).length = n
  | 0, o => rfl
  | n + 1, o => by simp [rdc_zero, rdc_succ, rdc_length t n]

theorem firstC_len {h : Hp} {x : Value} {size n m : Nat} {cs : List Value} (hn : lenC x = .ok m) (hnm : n ≤ m) (e : firstC h size n x = .ok cs) : cs.length = n * size := by
  unfold firstC at e
  split at e
  · unfold rd at e
    obtain ⟨k, hk, e1⟩ := bnd_ok e
    obtain ⟨hl, e2⟩ := chk_ok e1
    simp only [Except.ok.injEq] at e2; subst e2
    exact rdc_length _ _ _
  · obtain ⟨h1, e1⟩ := chk_ok e
    simp only [Except.ok.injEq] at e1; subst e1
    have := Nat.eq_of_beq_eq_true h1
    simp [this]
  · rename_i s
    obtain ⟨h1, e1⟩ := chk_ok e
    simp only [Except.ok.injEq] at e1; subst e1
    have := Nat.eq_of_beq_eq_true h1
    subst this
    simp only [lenC, Except.ok.injEq] at hn
    simp; omega
  · cases e

/-- The new row of an append that grows. -/
theorem append_grow {P : Program} {w : World} {st : TypeId} {ts : Array TypeId} {et : TypeId} {de : TD} (hTe : TyOk P et de) (h0 : ts[0]? = some st) (hst : P.underlying st = some (.slice et)) {type : TypeId}
    {base : Option Addr} {sl sc n : Nat} {x : Value} {old new : Array Value}
    (hz : ∀ xt, ts[1]? = some xt → ∃ dd, P.underlying xt = some dd ∧ ∀ k, dd ≠ .int k)
    (hn : (Builtin.lenOf x).run P w = .ok n w) (hgt : sc < sl + n) (hb : (sl + n) * de.bytes < bigSize) (hb1 : sl + n < bigSize)
    (hold : (Builtin.firstCells de.size sl (.slice base sl sc)).run P w.drew = .ok old w.drew) (hnew : (Builtin.firstCells de.size n x).run P w.drew = .ok new w.drew) :
    ∃ cap' rest, sl + n ≤ cap' ∧ rest.size = (cap' - (sl + n)) * de.size ∧
      (Builtin.append_ ts type #[.slice base sl sc, x]).run P w = .ok (.slice (some ⟨w.heap.size, 0, none⟩) (sl + n) cap') (w.drew.alloc (.cells (old ++ new ++ rest) et)) := by
  obtain ⟨i, hi, i1, i2, i3⟩ := hTe.runInfo
  have hbig : bigSize = 100000000 := rfl
  have hfit := growslice_fits (need := sl + n) (old := sc) (bytes := de.bytes) hgt (by omega)
  obtain ⟨cap', hcap'⟩ : ∃ cap', cap' = (sl + n) + w.tape w.drawn (.appendCap (sl + n) sc et) % (2 ^ 63 - (sl + n)) := ⟨_, rfl⟩
  have hch : (choose (.appendCap (sl + n) sc et)).run P w = .ok cap' w.drew := by
    rw [hcap']; simp [Question.forced, Question.cut]
  refine ⟨cap', Builtin.zeroCells de.zv.cells (cap' - (sl + n)), by omega, ?_, ?_⟩
  · have : de.zv.cells.size = de.size := by have := hTe.len; rw [← hTe.cells] at this; simpa using this
    simp [Builtin.zeroCells, this]
  · have c1 : ¬ (sl + n ≤ sc) := by omega
    have c2 : ¬ (((sl + n : Nat) : Int) > IntKind.i64.max ∧ (False ∨ i.bytes = 0)) := by
      have : IntKind.i64.max = 9223372036854775807 := by decide
      rw [this]; omega
    have c3 : ¬ (Builtin.nextslicecap (sl + n) sc * i.bytes > 2 ^ 48) := by rw [i2]; omega
    unfold Builtin.append_
    simp only [h0]
    simp only [List.getElem?_toArray, List.getElem?_cons_zero, List.getElem?_cons_succ, Sem.run_bind, run_underlying hst, Result.andThen_ok, hTe.runSize]
    cases h1 : ts[1]? with
    | none =>
      simp only [Sem.run_bind, Sem.run_pure, Result.andThen_ok, Bool.false_eq_true, if_false, hn, c1, hi, c2, c3, hch, run_askRoom, hold, Bool.not_false, if_true, hnew, hTe.runZero, newRow, run_newObj]
      rfl
    | some xt =>
      obtain ⟨dd, hu, hk⟩ := hz xt h1
      simp only [Sem.run_bind, Sem.run_pure, Result.andThen_ok, run_underlying hu]
      cases dd <;> first
        | (exact absurd rfl (hk _))
        | (simp only [Sem.run_bind, Sem.run_pure, Result.andThen_ok, Bool.false_eq_true, if_false, hn, c1, hi, c2, c3, hch, run_askRoom, hold, Bool.not_false, if_true, hnew, hTe.runZero, newRow, run_newObj]; rfl)

/-- An append for which there is room. -/
theorem append_room {P : Program} {w w' : World} {st : TypeId} {ts : Array TypeId} {et : TypeId} {de : TD} (hTe : TyOk P et de) (h0 : ts[0]? = some st) (hst : P.underlying st = some (.slice et)) {type : TypeId}
    {base : Option Addr} {sl sc n : Nat} {x : Value} {new : Array Value}
    (hz : ∀ xt, ts[1]? = some xt → ∃ dd, P.underlying xt = some dd ∧ ∀ k, dd ≠ .int k)
    (hn : (Builtin.lenOf x).run P w = .ok n w) (hle : sl + n ≤ sc) (hnew : (Builtin.firstCells de.size n x).run P w = .ok new w)
    (hs : (match base with | some a => storeCells (a.add (sl * de.size)) new.toList | none => (pure () : Sem Unit)).run P w = .ok () w') :
    (Builtin.append_ ts type #[.slice base sl sc, x]).run P w = .ok (.slice base (sl + n) sc) w' := by
  unfold Builtin.append_
  simp only [h0]
  simp only [List.getElem?_toArray, List.getElem?_cons_zero, List.getElem?_cons_succ, Sem.run_bind, run_underlying hst, Result.andThen_ok, hTe.runSize]
  cases h1 : ts[1]? with
  | none =>
    simp only [Sem.run_bind, Sem.run_pure, Result.andThen_ok, Bool.false_eq_true, if_false, hn, hle, if_true, hnew, Bool.not_false]
    cases base with
    | none => simp only [Sem.run_pure, Result.ok.injEq] at hs; obtain ⟨_, rfl⟩ := hs; rfl
    | some a => simp only at hs; simp only [Sem.run_bind, hs, Result.andThen_ok, Sem.run_pure]
  | some xt =>
    obtain ⟨dd, hu, hk⟩ := hz xt h1
    simp only [Sem.run_bind, Sem.run_pure, Result.andThen_ok, run_underlying hu]
    cases dd <;> first
      | (exact absurd rfl (hk _))
      | (simp only [Sem.run_bind, Sem.run_pure, Result.andThen_ok, Bool.false_eq_true, if_false, hn, hle, if_true, hnew, Bool.not_false]
         cases base with
         | none => simp only [Sem.run_pure, Result.ok.injEq] at hs; obtain ⟨_, rfl⟩ := hs; rfl
         | some a => simp only at hs; simp only [Sem.run_bind, hs, Result.andThen_ok, Sem.run_pure])
end Go.Ev
