/-
  By an AI agent: a part of the proof of this claim; what is proved stands in the text YtjinlihckmgioaaGreatDoorMain.
-/
import Derived.Test.YtjinlihckmgioaaGreatDoorEvInt
import Derived.Laws.BytesString
import Derived.Laws.IdiomStrings
set_option linter.unusedVariables false
set_option linter.unusedSimpArgs false
set_option linter.unusedSectionVars false
set_option linter.unusedVariables false
set_option linter.unusedSimpArgs false
set_option linter.unusedSectionVars false
namespace Go.Ev
open Go

def Sim (P : Program) (id base : Nat) (μ : Mu) (h : Hp) (w : World) (rs : Rs) (r : Result Next) : Prop :=
  match rs with
  | .val v h' => Did id base μ h w v h' r
  | .enter f args h' => h' = h ∧ ∃ args' : List Value, r = .ok (.enter f args'.toArray) w ∧ VRL μ args args'
  | .yld l args h' => h' = h ∧ ∃ (L : Nat) (args' : List Value), μ.m l = some L ∧ r = (Instr.yield L args'.toArray).run P w ∧ VRL μ args args'

/-- A new block of cells. -/
theorem new_cells {P : Program} {id base : Nat} {μ : Mu} {h : Hp} {w : World} (hr : HW μ base h w) (hb : base ≤ w.heap.size) (hid : id < h.cnt) (hm : μ.m id = none)
    {vs vs' : List Value} {t : TypeId} {ob : Ob} (hv : VRL μ vs vs') (e : mkBlk vs t = .ok ob) :
    HW (μ.add id w.heap.size vs'.length 0) base (newAt h id ob) (w.alloc (.cells vs'.toArray t)) ∧ Mv (· = id) μ h w (μ.add id w.heap.size vs'.length 0) (newAt h id ob) (w.alloc (.cells vs'.toArray t)) := by
  unfold mkBlk at e
  obtain ⟨hokc, e⟩ := chk_ok e
  obtain ⟨hlen, e⟩ := chk_ok e
  have hlen := blt_true hlen
  simp only [Except.ok.injEq] at e
  have hid40 := hr.num40 hid
  have hle : μ.le (μ.add id w.heap.size vs'.length 0) := Mu.le_add hm hr.fresh
  have hput : ∀ x, (newAt h id ob).obs.get x = if x = id then some ob else h.obs.get x := fun x => Tr.get_put _ _ _ _ hid40
  have hobs : ∀ x ob', (newAt h id ob).obs.get x = some ob' → (x = id ∧ ob' = ob) ∨ (x ≠ id ∧ h.obs.get x = some ob') := by
    intro x ob' hx
    rw [hput] at hx
    split at hx
    · simp only [Option.some.injEq] at hx; exact .inl ⟨by assumption, hx.symm⟩
    · exact .inr ⟨by assumption, hx⟩
  have hbig := big40
  have hl := hv.length
  refine ⟨⟨HR.alloc hr.toHR hm hb rfl hobs (Nat.le_refl _) hid hr.cnt (o := .cells vs'.toArray t) ?_ (by rw [← e]; rfl) ?_, hr.fo⟩, ?_⟩
  · rw [← e]
    refine ⟨rfl, by simp [Mu.add], by simp; omega, by simp only; omega, by simp, fun i v hi hgv => ?_⟩
    simp only at hi hgv
    rw [Tr.get_ofList _ _ (by omega)] at hgv
    rcases hv.get i with ⟨e1, _⟩ | ⟨x, y, e1, e2, hxy⟩
    · rw [e1] at hgv; cases hgv
    · rw [e1] at hgv; cases hgv
      exact ⟨y, by simpa using e2, hxy.mono hle⟩
  · intro b k f hbk hf
    rcases hobs _ _ hbk with ⟨rfl, he⟩ | ⟨_, ho⟩
    · rw [← e] at he; simp only [Ob.cells.injEq] at he; subst he; simp only at hf; omega
    · exact hr.fam ho hf
  · refine ⟨hle, Nat.le_refl _, fun x _ hx hgx => by rw [hput, if_neg hx]; exact hgx, fun x B h1 h2 => ?_, by simp, fun B hB _ => heap_alloc_old w _ B hB, rfl, rfl, rfl⟩
    by_cases ex : x = id
    · rw [ex] at h2; simp only [Mu.add, if_true] at h2; cases h2
      exact ⟨.inl ex, .inl (Nat.le_refl _)⟩
    · simp [Mu.add, ex, h1] at h2

section
variable {P : Program} {En : Env} (hE : EnvOk P En) {id base : Nat} {μ : Mu} {h : Hp} {w : World} (hr : HW μ base h w)
  (hb : base ≤ w.heap.size) (hid : id < h.cnt) (hm : μ.m id = none) {tm : Tr Value} {ρ : Operand → Value}
include hE hr hb hid hm

theorem sim_pick {o : Oper} {c a b : Operand} (ho : o.op = .pick c a b) (hc : VR μ (evo tm c) (ρ c)) (ha : VR μ (evo tm a) (ρ a)) (hb' : VR μ (evo tm b) (ρ b)) {rs : Rs}
    (e : c_pick En id tm h c a b = .ok rs) : Sim P id base μ h w rs ((execOp ρ o).run P w) := by
  unfold c_pick at e
  generalize evo tm c = vc at hc e
  generalize hcc : ρ c = rc at hc
  cases hc <;> (try simp only [reduceCtorEq] at e)
  rename_i t
  cases t <;> injection e with e <;> subst e
  · have : (execOp ρ o).run P w = .ok (.value (ρ b)) w := by simp [execOp, ho, hcc, asBool]
    rw [this]; exact Did.same hr hb'
  · have : (execOp ρ o).run P w = .ok (.value (ρ a)) w := by simp [execOp, ho, hcc, asBool]
    rw [this]; exact Did.same hr ha

theorem sim_alloc {o : Oper} {t : TypeId} (ho : o.op = .alloc t) {rs : Rs} (e : c_alloc En id tm h t = .ok rs) : Sim P id base μ h w rs ((execOp ρ o).run P w) := by
  unfold c_alloc at e
  obtain ⟨d, hd, e⟩ := bnd_ok e
  have hT := hE.ty (opt_ok hd)
  obtain ⟨ob, hob, e⟩ := bnd_ok e
  simp only [Except.ok.injEq] at e
  subst e
  obtain ⟨h1, h2⟩ := new_cells (P := P) hr hb hid hm (plains_rel μ hT.plain) hob
  have : (execOp ρ o).run P w = .ok (.value (.pointer (some ⟨w.heap.size, 0, none⟩))) (w.alloc (.cells d.zero.toArray t)) := by
    simp only [execOp, ho, Instr.alloc, Sem.run_bind, hT.runZero, Result.andThen, newVar, newRow, run_newObj, Sem.run_pure]
    rw [show d.zv.cells = d.zero.toArray from by rw [← hT.cells]]
    rfl
  rw [this]
  exact ⟨_, _, _, rfl, .inl ⟨_, rfl, .ptr 0 (by simp [Mu.add])⟩, h1, h2⟩

theorem sim_box {o : Oper} {t : TypeId} {x : Operand} (ho : o.op = .box t x) (hx : VR μ (evo tm x) (ρ x)) {rs : Rs} (e : c_box En id tm h t x = .ok rs) : Sim P id base μ h w rs ((execOp ρ o).run P w) := by
  unfold c_box at e
  obtain ⟨cs, hcs, e⟩ := bnd_ok e
  obtain ⟨ob, hob, e⟩ := bnd_ok e
  simp only [Except.ok.injEq] at e
  subst e
  obtain ⟨h1, h2⟩ := new_cells (P := P) hr hb hid hm (vcells_rel hx hcs) hob
  have : (execOp ρ o).run P w = .ok (.value (.pointer (some ⟨w.heap.size, 0, none⟩))) (w.alloc (.cells (ρ x).cells.toList.toArray t)) := by
    simp [execOp, ho, Instr.box, newVar, newRow]
  rw [this]
  exact ⟨_, _, _, rfl, .inl ⟨_, rfl, .ptr 0 (by simp [Mu.add])⟩, h1, h2⟩

theorem ldv_run {t : TypeId} {d : TD} (hT : TyOk P t d) {b B o : Nat} (hbB : μ.m b = some B) {v : Value} (e : ldv d h b o = .ok v) : ∃ v', (loadVar t ⟨B, o, none⟩).run P w = .ok v' w ∧ VR μ v v' := by
  unfold ldv at e
  cases ha : isAg d.desc with
  | true =>
    simp only [ha] at e
    obtain ⟨cs, hcs, e⟩ := bnd_ok e
    simp only [Except.ok.injEq] at e
    subst e
    unfold rd at hcs
    obtain ⟨k, hk, hcs⟩ := bnd_ok hcs
    obtain ⟨hl, hcs⟩ := chk_ok hcs
    have hl := Nat.le_of_ble_eq_true hl
    simp only [Except.ok.injEq] at hcs
    subst hcs
    obtain ⟨ob, hob, hR⟩ := hr.ob (getBlk_ok hk) hbB
    cases ob with
    | cells c el fr =>
      simp only [ObR] at hR
      refine ⟨.agg (c.extract o (o + d.size)), ?_, .agg (by rw [List.toList_toArray]; exact rdc_rel hR.2 d.size o hl)⟩
      simp only [loadVar, Sem.run_bind, hT.runAgg, Result.andThen, ha, if_true, hT.runSize]
      rw [run_loadCells' P hob (by have := hR.2.2.1; omega)]
      rfl
    | _ => simp [ObR] at hR
  | false =>
    simp only [ha] at e
    obtain ⟨cs, hcs, e⟩ := bnd_ok e
    unfold rd at hcs
    obtain ⟨k, hk, hcs⟩ := bnd_ok hcs
    obtain ⟨hl, hcs⟩ := chk_ok hcs
    have hl := Nat.le_of_ble_eq_true hl
    simp only [Except.ok.injEq] at hcs
    subst hcs
    simp only [rdc_zero, rdc_succ, Except.ok.injEq] at e
    subst e
    obtain ⟨ob, hob, hR⟩ := hr.ob (getBlk_ok hk) hbB
    cases ob with
    | cells c el fr =>
      simp only [ObR] at hR
      have hlt : o < c.size := by have := hR.2.2.1; omega
      refine ⟨c[o], ?_, ?_⟩
      · simp only [loadVar, Sem.run_bind, hT.runAgg, Result.andThen, ha, Bool.false_eq_true, if_false]
        rw [run_load, cell_of hob, Array.getElem?_eq_getElem hlt]
      · cases hgo : k.cells.get o with
        | none => exact .psn _
        | some v =>
          obtain ⟨v', hv', hrel⟩ := hR.2.2.2.2.2 o v (by omega) hgo
          rw [Array.getElem?_eq_getElem hlt] at hv'
          cases hv'; exact hrel
    | _ => simp [ObR] at hR

theorem sim_load {o : Oper} {t : TypeId} {a : Operand} (ho : o.op = .load t a) (ha : VR μ (evo tm a) (ρ a)) {rs : Rs} (e : c_load En id tm h t a = .ok rs) : Sim P id base μ h w rs ((execOp ρ o).run P w) := by
  unfold c_load at e
  obtain ⟨d, hd, e⟩ := bnd_ok e
  have hT := hE.ty (opt_ok hd)
  generalize evo tm a = va at ha e
  generalize hra : ρ a = ra at ha
  cases ha <;> simp only [reduceCtorEq] at e
  rename_i b B off hbB
  obtain ⟨v, hv, e⟩ := bnd_ok e
  simp only [Except.ok.injEq] at e
  subst e
  obtain ⟨v', hrun, hvr⟩ := ldv_run hE hr hb hid hm hT hbB hv
  have : (execOp ρ o).run P w = .ok (.value v') w := by
    simp [execOp, ho, hra, Instr.loadAt, Instr.sureAddr, hrun]
  rw [this]; exact Did.same hr hvr

theorem sim_store {o : Oper} {t : TypeId} {a x : Operand} (ho : o.op = .store t a x) (ha : VR μ (evo tm a) (ρ a)) (hx : VR μ (evo tm x) (ρ x)) {rs : Rs} (e : c_store En id tm h t a x = .ok rs) :
    Sim P id base μ h w rs ((execOp ρ o).run P w) := by
  unfold c_store at e
  obtain ⟨d, hd, e⟩ := bnd_ok e
  have hT := hE.ty (opt_ok hd)
  generalize evo tm a = va at ha e
  generalize hra : ρ a = ra at ha
  cases ha <;> simp only [reduceCtorEq] at e
  rename_i b B off hbB
  obtain ⟨cs, hcs, e⟩ := bnd_ok e
  obtain ⟨hl, e⟩ := chk_ok e
  obtain ⟨h1, hw, e⟩ := bnd_ok e
  simp only [Except.ok.injEq] at e
  subst e
  have hcr := vcells_rel hx hcs
  have hal : h.obs.get b ≠ none := by
    intro hn; unfold wr at hw; obtain ⟨k, hk, _⟩ := bnd_ok hw; rw [getBlk_ok hk] at hn; cases hn
  obtain ⟨w', hrun, hr', hc', hdead, ⟨obj, hobj⟩, hos, hou, hta⟩ := wr_rel (P := P) hr hbB hcr hw
  have hsz : (ρ x).cells.size = d.size := by
    have := hcr.length; have h2 := Nat.eq_of_beq_eq_true hl; simp at this; omega
  have : (execOp ρ o).run P w = .ok .skip w' := by
    simp [execOp, ho, hra, Instr.storeAt, Instr.sureAddr, storeVar, hT.runSize, hsz, hrun]
  rw [this]
  refine ⟨μ, w', .skip, rfl, .inr ⟨rfl, rfl⟩, hr', ?_⟩
  refine ⟨.refl μ, Nat.le_of_eq hc'.symm, fun x _ _ hgx => hdead x hgx, fun x B h1 h2 => (by rw [h1] at h2; cases h2), (by rw [hobj]; simp), fun X hX hn => ?_, hos, hou, hta⟩
  have hne : X ≠ B := by
    intro e
    cases hgb : h.obs.get b with
    | none => exact hal hgb
    | some ob => exact hn b ob (e ▸ hbB) hgb
  rw [hobj, Array.getElem?_setIfInBounds, if_neg (fun e => hne e.symm)]

theorem sim_nilCheck {o : Oper} {x : Operand} (ho : o.op = .nilCheck x) (hx : VR μ (evo tm x) (ρ x)) {rs : Rs} (e : c_nilCheck En id tm h x = .ok rs) : Sim P id base μ h w rs ((execOp ρ o).run P w) := by
  unfold c_nilCheck at e
  generalize evo tm x = vx at hx e
  generalize hra : ρ x = rx at hx
  cases hx <;> simp only [reduceCtorEq, Except.ok.injEq] at e <;> (try subst e)
  case ptr b B off hbB =>
    have : (execOp ρ o).run P w = .ok (.value (ρ x)) w := by simp [execOp, ho, hra]
    rw [this, hra]; exact Did.same hr (.ptr off hbB)
  case func f a a' c c' ha hc =>
    have : (execOp ρ o).run P w = .ok (.value (ρ x)) w := by simp [execOp, ho, hra]
    rw [this, hra]; exact Did.same hr (.func f ha hc)
  case yield l L hl =>
    have : (execOp ρ o).run P w = .ok (.value (ρ x)) w := by simp [execOp, ho, hra]
    rw [this, hra]; exact Did.same hr (.yield hl)

omit hE hr hb hid hm in
theorem equal_run {t : TypeId} {x y : Value} {b : Bool} (h : ∀ d, (Op.equalIn (d + 1) t x y).run P w = .ok b w) : (Op.equal t x y).run P w = .ok b w := h 9999

theorem bin2_run {t : TypeId} {d : TD} (hT : TyOk P t d) {op : BinOp} {x y x' y' v : Value} (hx : VR μ x x') (hy : VR μ y y') (e : bin2 d.desc op x y = .ok v) {xo yo : Operand}
    (guard0 : (∀ a b, ¬ (x' = .agg a ∧ y' = .agg b)) → ¬ (x' = .nilIface ∧ y' = .nilIface) → (eqGuard op t xo yo x' y').run P w = .ok () w) :
    ∃ v', ((do eqGuard op t xo yo x' y'; binOp op t x' y' : Sem Value)).run P w = .ok v' w ∧ VR μ v v' := by
  unfold bin2 at e
  split at e <;> simp only [Except.ok.injEq, reduceCtorEq] at e <;> subst e
  · rename_i a b hdd
    cases hx; cases hy
    have := equal_run (P := P) (w := w) (t := t) (x := .bool a) (y := .bool b) (b := a == b) fun d => by simp [Op.equalIn, hT.runUnder, hdd]
    exact ⟨_, by simp [guard0 (by simp) (by simp), binOp, this], .bool _⟩
  · rename_i a b hdd
    cases hx; cases hy
    have := equal_run (P := P) (w := w) (t := t) (x := .bool a) (y := .bool b) (b := a == b) fun d => by simp [Op.equalIn, hT.runUnder, hdd]
    exact ⟨_, by simp [guard0 (by simp) (by simp), binOp, this], .bool _⟩
  · rename_i a _ _ n2 c2 hdd
    cases hy
    have := equal_run (P := P) (w := w) (t := t) (x := x') (y := .slice none n2 c2) (b := a.isNone) fun d => by cases hx <;> simp [Op.equalIn, hT.runUnder, hdd]
    refine ⟨.bool a.isNone, ?_, .bool _⟩
    cases hx <;> simp [guard0 (by simp) (by simp), binOp, this]
  · rename_i a _ _ n2 c2 hdd
    cases hy
    have := equal_run (P := P) (w := w) (t := t) (x := x') (y := .slice none n2 c2) (b := a.isNone) fun d => by cases hx <;> simp [Op.equalIn, hT.runUnder, hdd]
    refine ⟨.bool (!a.isNone), ?_, .bool _⟩
    cases hx <;> simp [guard0 (by simp) (by simp), binOp, this]
  · rename_i a hdd
    cases hy
    have := equal_run (P := P) (w := w) (t := t) (x := x') (y := .pointer none) (b := a.isNone) fun d => by cases hx <;> simp [Op.equalIn, hT.runUnder, hdd]
    refine ⟨.bool a.isNone, ?_, .bool _⟩
    cases hx <;> simp [guard0 (by simp) (by simp), binOp, this]
  · rename_i a hdd
    cases hy
    have := equal_run (P := P) (w := w) (t := t) (x := x') (y := .pointer none) (b := a.isNone) fun d => by cases hx <;> simp [Op.equalIn, hT.runUnder, hdd]
    refine ⟨.bool (!a.isNone), ?_, .bool _⟩
    cases hx <;> simp [guard0 (by simp) (by simp), binOp, this]

theorem eq1_run {t : TypeId} {d : TD} (hT : TyOk P t d) {a b a' b' : Value} {r : Bool} (ha : VR μ a a') (hb' : VR μ b b') (e : eq1 d.desc (some a) (some b) = .ok r) (n : Nat) (w : World) :
    (Op.equalIn (n + 1) t a' b').run P w = .ok r w := by
  unfold eq1 at e
  unfold Op.equalIn
  split at e
  · rename_i h1 h2 h3
    simp only [Option.some.injEq] at h2 h3; subst h2; subst h3
    cases ha; cases hb'
    simp only [Except.ok.injEq] at e; subst e
    simp only [Sem.run_bind, hT.runUnder, Result.andThen_ok, h1, Sem.run_pure]
  · rename_i h1 h2 h3
    simp only [Option.some.injEq] at h2 h3; subst h2; subst h3
    cases ha; cases hb'
    obtain ⟨hk, e⟩ := chk_ok e
    simp only [Except.ok.injEq] at e; subst e
    simp only [Sem.run_bind, hT.runUnder, Result.andThen_ok, h1, sameK_eq hk, if_true, Sem.run_pure]
    congr 1
    rw [Bool.eq_iff_iff, eqF_eq, beq_iff_eq]
  · rename_i h1 h2 h3
    simp only [Option.some.injEq] at h2 h3; subst h2; subst h3
    cases ha; cases hb'
    simp only [Except.ok.injEq] at e; subst e
    simp only [Sem.run_bind, hT.runUnder, Result.andThen_ok, h1, Sem.run_pure]
    congr 1
    rename_i s1 s2
    have : (s1 == s2) = (s1.data == s2.data) := rfl
    rw [this, Bool.eq_iff_iff, beq_iff_eq, beq_iff_eq]
    exact ⟨fun h => by rw [h], fun h => Array.ext' h⟩
  · cases e

theorem eqFs_run {xs ys xs' ys' : Array Value} (hx : VRL μ xs.toList xs'.toList) (hy : VRL μ ys.toList ys'.toList) (n : Nat) (w : World) : ∀ {fs : List Field} {r : Bool}, eqFs En xs.toList ys.toList fs = .ok r →
    (forIn (m := Sem) fs ((none, ()) : Option Bool × Unit) (fun f _ => do
      if f.name ≠ "_" then
        if (!(← Op.equalIn (n + 1) f.type (← part f.type xs' f.offset) (← part f.type ys' f.offset))) = true then pure (ForInStep.done (some false, ())) else pure (ForInStep.yield (none, ()))
      else pure (ForInStep.yield (none, ())))).run P w = .ok (match r with | true => (none, ()) | false => (some false, ())) w
  | [], r, e => by
    simp only [eqFs, Except.ok.injEq] at e; subst e
    simp
  | f :: fs, r, e => by
    unfold eqFs at e
    obtain ⟨hn, e⟩ := chk_ok e
    obtain ⟨d, hd, e⟩ := bnd_ok e
    obtain ⟨b, hbq, e⟩ := bnd_ok e
    have hT := hE.ty (opt_ok hd)
    rw [List.forIn_cons]
    have hne : f.name ≠ "_" := by simpa using hn
    obtain ⟨x, y, ex, ey⟩ : ∃ x y, xs.toList[f.offset]? = some x ∧ ys.toList[f.offset]? = some y := by
      unfold eq1 at hbq
      split at hbq <;> first | exact ⟨_, _, by assumption, by assumption⟩ | cases hbq
    rw [ex, ey] at hbq
    have hag : isAg d.desc = false := by
      unfold eq1 at hbq
      split at hbq <;> first | (rename_i h1 _ _; rw [h1]; rfl) | cases hbq
    rcases hx.get f.offset with ⟨h1, _⟩ | ⟨x0, x', h1, h2, hxx⟩
    · rw [h1] at ex; cases ex
    rw [h1] at ex; simp only [Option.some.injEq] at ex; subst ex
    rcases hy.get f.offset with ⟨h3, _⟩ | ⟨y0, y', h3, h4, hyy⟩
    · rw [h3] at ey; cases ey
    rw [h3] at ey; simp only [Option.some.injEq] at ey; subst ey
    have p1 : (part f.type xs' f.offset).run P w = .ok x' w := by
      simp only [part, Sem.run_bind, hT.runAgg, Result.andThen_ok, hag, Bool.false_eq_true, if_false]
      rw [← Array.getElem?_toList, h2]; rfl
    have p2 : (part f.type ys' f.offset).run P w = .ok y' w := by
      simp only [part, Sem.run_bind, hT.runAgg, Result.andThen_ok, hag, Bool.false_eq_true, if_false]
      rw [← Array.getElem?_toList, h4]; rfl
    have p3 := eq1_run hE hr hb hid hm hT hxx hyy hbq n w
    simp only [Sem.run_bind, hne, ne_eq, not_false_eq_true, if_true, p1, p2, p3, Result.andThen_ok]
    cases b with
    | false =>
      simp only [Except.ok.injEq] at e; subst e
      simp
    | true =>
      simp only at e
      have := eqFs_run hx hy n w e
      simpa [hne] using this

theorem binS_run {t : TypeId} {d : TD} (hT : TyOk P t d) {op : BinOp} {x y x' y' v : Value} (hx : VR μ x x') (hy : VR μ y y') (e : binS En d op x y = .ok v) {xo yo : Operand}
    (guard0 : (∀ a b, ¬ (x' = .agg a ∧ y' = .agg b)) → ¬ (x' = .nilIface ∧ y' = .nilIface) → (eqGuard op t xo yo x' y').run P w = .ok () w) :
    ∃ v', ((do eqGuard op t xo yo x' y'; binOp op t x' y' : Sem Value)).run P w = .ok v' w ∧ VR μ v v' := by
  unfold binS at e
  split at e
  · rename_i fs xs ys hq hd
    obtain ⟨b, hbq, e1⟩ := bnd_ok e
    clear e
    cases hx with
    | agg hx =>
    cases hy with
    | agg hy =>
    rename_i xs' ys'
    obtain ⟨g1, g2⟩ := hT.eqs hq
    have hrun := eqFs_run hE hr hb hid hm hx hy 9998 w hbq
    have hg : (eqGuard op t xo yo (.agg xs') (.agg ys')).run P w = .ok () w := by
      unfold eqGuard
      cases op <;> simp [g1]
    have heq : (Op.equal t (.agg xs') (.agg ys')).run P w = .ok b w := by
      unfold Op.equal Op.maxDepth
      rw [Op.equalIn]
      simp only [Sem.run_bind, hT.runUnder, Result.andThen_ok, hd, run_program, g2, Bool.false_eq_true, if_false]
      rw [← Array.forIn_toList]
      rw [show (9998 + 1 : Nat) = 9999 from rfl] at hrun
      rw [hrun]
      cases b <;> simp
    cases op <;> simp only [Except.ok.injEq, reduceCtorEq] at e1
    · subst e1
      refine ⟨_, ?_, .bool b⟩
      simp only [Sem.run_bind, hg, Result.andThen_ok, binOp, heq, Sem.run_pure]
    · subst e1
      refine ⟨_, ?_, .bool _⟩
      simp only [Sem.run_bind, hg, Result.andThen_ok, binOp, heq, Sem.run_pure]
  · exact bin2_run hE hr hb hid hm hT hx hy e guard0

theorem bin_run {t : TypeId} {op : BinOp} {x y x' y' v : Value} (hx : VR μ x x') (hy : VR μ y y') (e : bin En t op x y = .ok v) (xo yo : Operand) :
    ∃ v', ((do eqGuard op t xo yo x' y'; binOp op t x' y' : Sem Value)).run P w = .ok v' w ∧ VR μ v v' := by
  have guard0 : (∀ a b, ¬ (x' = .agg a ∧ y' = .agg b)) → ¬ (x' = .nilIface ∧ y' = .nilIface) → (eqGuard op t xo yo x' y').run P w = .ok () w := by
    intro h1 h2
    unfold eqGuard
    cases op <;> simp only [Bool.not_true, Bool.not_false, Bool.false_eq_true, if_false, if_true, Sem.run_pure] <;> (try rfl)
    all_goals
      split
      · exact absurd ⟨rfl, rfl⟩ h2
      · exact absurd ⟨rfl, rfl⟩ (h1 _ _)
      · rfl
  unfold bin at e
  split at e
  · rename_i k a k' b
    cases hx; cases hy
    refine ⟨v, ?_, ?_⟩
    · have hrun : (binOp op t (.int k a) (.int k' b)).run P w = .ok v w := by
        split at e
        · rename_i hk; exact intF_run P op k k' a b v t w e (.inl (sameK_eq hk))
        · split at e
          · rename_i hk; exact intF_run P op k k' a b v t w e (.inr hk)
          · cases e
      simp [guard0 (by simp) (by simp), hrun]
    · have : ∀ {e' : E Value}, e' = .ok v → (e' = intF op k a b) → VR μ v v := by
        intro e' he1 he2
        rw [he2] at he1
        have key : (∃ q, v = .bool q) ∨ ∃ k n, v = .int k n := by
          cases op <;> simp only [intF, Except.ok.injEq, reduceCtorEq] at he1
          all_goals first
            | (subst he1; simp; done)
            | (have h1 := pureOf_ok he1; simp only [Op.intBits] at h1; injection h1 with h1; right; exact ⟨_, _, h1.symm⟩)
            | (split at he1
               · split at he1 <;> first
                  | (cases he1; done)
                  | (simp only [Except.ok.injEq] at he1; subst he1; right; exact ⟨_, _, rfl⟩)
                  | (have h1 := pureOf_ok he1; simp only [Op.intDiv, Op.intBits, Op.shift] at h1; (repeat' split at h1) <;> first
                      | (injection h1 with h1; right; exact ⟨_, _, h1.symm⟩)
                      | (simp [runtimePanic, program, goPanic, Bind.bind, Sem.bind] at h1))
               · have h1 := pureOf_ok he1; simp only [Op.intDiv, Op.intBits, Op.shift] at h1; (repeat' split at h1) <;> first
                   | (injection h1 with h1; right; exact ⟨_, _, h1.symm⟩)
                   | (simp [runtimePanic, program, goPanic, Bind.bind, Sem.bind] at h1))
        rcases key with ⟨q, rfl⟩ | ⟨k, n, rfl⟩
        · exact .bool q
        · exact .int k n
      split at e
      · exact this e rfl
      · split at e
        · exact this e rfl
        · cases e
  · rename_i a b
    cases hx; cases hy
    have h1 := pureOf_ok e
    refine ⟨v, by simp [guard0 (by simp) (by simp), binOp, h1], ?_⟩
    have key : (∃ q, v = .bool q) ∨ ∃ s, v = .string s := by
      unfold Op.stringOp at h1
      cases op <;> simp only at h1 <;> first
        | (injection h1 with h1; left; exact ⟨_, h1.symm⟩)
        | (split at h1 <;> first | (injection h1 with h1; right; exact ⟨_, h1.symm⟩) | (simp [unsupported] at h1))
        | (simp [stuck] at h1)
    rcases key with ⟨q, rfl⟩ | ⟨s, rfl⟩
    · exact .bool q
    · exact .string s
  · obtain ⟨d, hd, e⟩ := bnd_ok e
    have hT := hE.ty (opt_ok hd)
    exact binS_run hE hr hb hid hm hT hx hy e guard0

theorem sim_binOp {o : Oper} {t t' : TypeId} {op : BinOp} {x y : Operand} (ho : o.op = .binOp op t x y t') (hx : VR μ (evo tm x) (ρ x)) (hy : VR μ (evo tm y) (ρ y)) {rs : Rs} (e : c_binOp En id tm h t op x y = .ok rs) :
    Sim P id base μ h w rs ((execOp ρ o).run P w) := by
  unfold c_binOp at e
  obtain ⟨v, hv, e⟩ := bnd_ok e
  simp only [Except.ok.injEq] at e
  subst e
  obtain ⟨v', hrun, hvr⟩ := bin_run hE hr hb hid hm hx hy hv x y
  have : (execOp ρ o).run P w = .ok (.value v') w := by
    have h2 : execOp ρ o = (do pure (Next.value (← (do eqGuard op t x y (ρ x) (ρ y); binOp op t (ρ x) (ρ y) : Sem Value)))) := by simp only [execOp, ho]
    rw [h2, Sem.run_bind, hrun]
    rfl
  rw [this]; exact Did.same hr hvr
end
end Go.Ev
