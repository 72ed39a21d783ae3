/-
  By an AI agent: a part of the proof of this claim; what is proved stands in the text YtjinlihckmgioaaGreatDoorMain.
-/
import Derived.Test.YtjinlihckmgioaaGreatDoorEvWr
import Derived.ChangeKeysEq
set_option linter.unusedVariables false
set_option linter.unusedSimpArgs false
set_option linter.unusedSectionVars false
set_option linter.unusedVariables false
set_option linter.unusedSimpArgs false
namespace Go.Ev
open Go

def TD.zv (d : TD) : Value := if isAg d.desc then .agg d.zero.toArray else d.zero.headD undef

structure TyOk (P : Program) (t : TypeId) (d : TD) : Prop where
  under : P.underlying t = some d.desc
  info : ∃ i, P.info? t = some i ∧ i.size = d.size ∧ i.bytes = d.bytes ∧ i.zero = some d.zv
  cells : d.zv.cells.toList = d.zero
  len : d.zero.length = d.size
  plain : d.zero.all plain1 = true
  eqs : d.eqs = true → P.eqGuardType P.depth t = false ∧ P.stoodInHeld t = false

structure EnvOk (P : Program) (En : Env) : Prop where
  ty : ∀ {t d}, En.ty.get t = some d → TyOk P t d
  fn : ∀ {f d}, En.fn.get f = some d → ∃ fn c, P.funcs[f]? = some fn ∧ (fn.name == "runtime.NumGoroutine") = false ∧ fn.body = some c ∧ d = { ntmps := fn.ntmps, results := fn.results.toList, body := toCd En.ty c }
  mixed : P.follows .mixedOrders = true
  ex : ∀ {f n}, En.ex.get f = some n → n = 1 ∧ ∃ fn, P.funcs[f]? = some fn ∧ (fn.name == "runtime.NumGoroutine") = false ∧ fn.body = none ∧ Extern.findNext fn = none ∧ Extern.find fn = some Extern.BytealgCompare.compare

section
variable {P : Program} {t : TypeId} {d : TD}
theorem TyOk.runUnder (h : TyOk P t d) (w : World) : (underlying t).run P w = .ok d.desc w := run_underlying h.under w
theorem TyOk.runInfo (h : TyOk P t d) : ∃ i, (∀ w, (typeInfo t).run P w = .ok i w) ∧ i.size = d.size ∧ i.bytes = d.bytes ∧ i.zero = some d.zv := by
  obtain ⟨i, h1, h2⟩ := h.info
  exact ⟨i, fun w => by simp [typeInfo, h1], h2⟩
theorem TyOk.runSize (h : TyOk P t d) (w : World) : (sizeOf t).run P w = .ok d.size w := by
  obtain ⟨i, h1, h2, _⟩ := h.runInfo
  simp [sizeOf, h1, h2]
theorem TyOk.runZero (h : TyOk P t d) (w : World) : (zeroValue t).run P w = .ok d.zv w := by
  obtain ⟨i, h1, _, _, h2⟩ := h.runInfo
  simp [zeroValue, h1, h2]
theorem TyOk.runAgg (h : TyOk P t d) (w : World) : (isAgg t).run P w = .ok (isAg d.desc) w := by
  simp only [isAgg, Sem.run_bind, h.runUnder, Result.andThen]
  unfold isAg
  cases d.desc <;> rfl
end

theorem plain1_rel (μ : Mu) {v : Value} (h : plain1 v = true) : VR μ v v := by
  cases v with
  | bool b => exact .bool b
  | int k n => exact .int k n
  | float k n => exact .float k n
  | string s => exact .string s
  | pointer a => cases a with
    | none => exact .ptr0
    | some a => simp [plain1] at h
  | slice a n c => cases a with
    | none => exact .sl0 n c
    | some a => simp [plain1] at h
  | map r => cases r with
    | none => exact .map0
    | some a => simp [plain1] at h
  | func f a c => cases f with
    | func g =>
      simp only [plain1, Bool.and_eq_true, Array.isEmpty_iff] at h
      obtain ⟨rfl, rfl⟩ := h
      exact .func g .nil .nil
    | _ => simp [plain1] at h
  | nilFunc => exact .nilFunc
  | nilIface => exact .nilIface
  | _ => simp [plain1] at h

theorem plains_rel (μ : Mu) : ∀ {l : List Value}, l.all plain1 = true → VRL μ l l
  | [], _ => .nil
  | v :: l, h => by
    simp only [List.all_cons, Bool.and_eq_true] at h
    exact .cons (plain1_rel μ h.1) (plains_rel μ h.2)

theorem plainV_rel (μ : Mu) {v : Value} (h : plainV v = true) : VR μ v v := by
  unfold plainV at h
  split at h
  · exact .agg (plains_rel μ h)
  · exact plain1_rel μ h

/-- What an operand comes to. -/
theorem evo_rel {μ : Mu} {tm : Tr Value} {a : Act} {nt : Nat} (h : TmR μ tm nt a.tmps) (x : Operand) : VR μ (evo tm x) (a.eval x) := by
  cases x with
  | tmp t => exact h.2.2 t
  | const v =>
    simp only [evo, Act.eval]
    split
    · exact plainV_rel μ (by assumption)
    · exact .psn _
  | global g => exact .psn _
  | func f => exact .func f .nil .nil

theorem TD.zv_rel {P : Program} {t : TypeId} {d : TD} (h : TyOk P t d) (μ : Mu) : VR μ d.zv d.zv := by
  unfold TD.zv
  split
  · exact .agg (by simpa using plains_rel μ h.plain)
  · cases hz : d.zero with
    | nil => exact .tuple .nil
    | cons v r =>
      have := h.plain
      rw [hz] at this
      simp only [List.all_cons, Bool.and_eq_true] at this
      exact plain1_rel μ this.1

/-! A step keeps what it must keep -/
structure Mv (I : Nat → Prop) (μ : Mu) (h : Hp) (w : World) (μ' : Mu) (h' : Hp) (w' : World) : Prop where
  le : μ.le μ'
  cnt : h.cnt ≤ h'.cnt
  dead : ∀ x, x < h.cnt → ¬ I x → h.obs.get x = none → h'.obs.get x = none
  new : ∀ x B, μ.m x = none → μ'.m x = some B → (I x ∨ h.cnt ≤ x) ∧ (w.heap.size ≤ B ∨ ∃ b ob, μ.m b = some B ∧ h.obs.get b = some ob)
  size : w.heap.size ≤ w'.heap.size
  frame : ∀ B, B < w.heap.size → (∀ b ob, μ.m b = some B → h.obs.get b ≠ some ob) → w'.heap[B]? = w.heap[B]?
  os : w'.os = w.os
  output : w'.output = w.output
  tape : w'.tape = w.tape

theorem Mv.refl (I : Nat → Prop) (μ : Mu) (h : Hp) (w : World) : Mv I μ h w μ h w :=
  ⟨.refl μ, Nat.le_refl _, fun _ _ _ h => h, fun x B h1 h2 => (by rw [h1] at h2; cases h2), Nat.le_refl _, fun _ _ _ => rfl, rfl, rfl, rfl⟩

theorem Mv.mono {I J : Nat → Prop} {μ μ' : Mu} {h h' : Hp} {w w' : World} (m : Mv I μ h w μ' h' w') (hIJ : ∀ x, I x → J x) : Mv J μ h w μ' h' w' :=
  ⟨m.le, m.cnt, fun x a b c => m.dead x a (fun hi => b (hIJ x hi)) c, fun x B a b => ⟨(m.new x B a b).1.imp (hIJ x) id, (m.new x B a b).2⟩, m.size, m.frame, m.os, m.output, m.tape⟩

theorem Mv.trans {I J : Nat → Prop} {μ μ1 μ2 : Mu} {h h1 h2 : Hp} {w w1 w2 : World} (a : Mv I μ h w μ1 h1 w1) (b : Mv J μ1 h1 w1 μ2 h2 w2)
    (hold : ∀ {x B}, μ.m x = some B → x < h.cnt) (hI : ∀ x, I x → μ.m x = none) : Mv (fun x => I x ∨ J x) μ h w μ2 h2 w2 := by
  have alive : ∀ {B}, (∃ x ob, μ1.m x = some B ∧ h1.obs.get x = some ob) → w.heap.size ≤ B ∨ ∃ x ob, μ.m x = some B ∧ h.obs.get x = some ob := by
    rintro B ⟨x, ob, hx, hob⟩
    cases hm : μ.m x with
    | none => exact (a.new x B hm hx).2
    | some B' =>
      have := a.le.m hm
      rw [hx] at this; cases this
      cases hg : h.obs.get x with
      | some ob' => exact .inr ⟨x, ob', hm, hg⟩
      | none =>
        rw [a.dead x (hold hm) (fun hi => by rw [hI x hi] at hm; cases hm) hg] at hob
        cases hob
  refine ⟨a.le.trans b.le, Nat.le_trans a.cnt b.cnt, ?_, ?_, Nat.le_trans a.size b.size, ?_, b.os.trans a.os, b.output.trans a.output, b.tape.trans a.tape⟩
  · intro x hx hIJ hg
    exact b.dead x (Nat.lt_of_lt_of_le hx a.cnt) (fun hj => hIJ (.inr hj)) (a.dead x hx (fun hi => hIJ (.inl hi)) hg)
  · intro x B hn hs
    cases hm : μ1.m x with
    | some B' =>
      have := b.le.m hm
      rw [hs] at this; cases this
      exact ⟨(a.new x B hn hm).1.imp .inl id, (a.new x B hn hm).2⟩
    | none =>
      obtain ⟨p, q⟩ := b.new x B hm hs
      refine ⟨?_, ?_⟩
      · rcases p with p | p
        · exact .inl (.inr p)
        · exact .inr (Nat.le_trans a.cnt p)
      · rcases q with q | q
        · exact .inl (Nat.le_trans a.size q)
        · exact alive q
  · intro B hB hn
    rw [b.frame B (Nat.lt_of_lt_of_le hB a.size) ?_]
    · exact a.frame B hB hn
    · intro x ob hx hob
      rcases alive ⟨x, ob, hx, hob⟩ with h | ⟨y, ob', hy, hg⟩
      · omega
      · exact hn y ob' hy hg

/-- What an operation with a value has done. -/
def Did (id base : Nat) (μ : Mu) (h : Hp) (w : World) (v : Value) (h' : Hp) (r : Result Next) : Prop :=
  ∃ μ' w' nx, r = .ok nx w' ∧ ((∃ v', nx = .value v' ∧ VR μ' v v') ∨ (nx = .skip ∧ v = undef)) ∧ HW μ' base h' w' ∧ Mv (· = id) μ h w μ' h' w'

theorem Did.same {id base : Nat} {μ : Mu} {h : Hp} {w : World} {v v' : Value} (hr : HW μ base h w) (hv : VR μ v v') : Did id base μ h w v h (.ok (.value v') w) :=
  ⟨μ, w, _, rfl, .inl ⟨v', rfl, hv⟩, hr, .refl _ _ _ _⟩
end Go.Ev
