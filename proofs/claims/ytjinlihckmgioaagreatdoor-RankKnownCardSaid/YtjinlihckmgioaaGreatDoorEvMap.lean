/-
  By an AI agent: a part of the proof of this claim; what is proved stands in the text YtjinlihckmgioaaGreatDoorMain.
-/
import Derived.Test.YtjinlihckmgioaaGreatDoorEvOp10
set_option linter.unusedVariables false
set_option linter.unusedSimpArgs false
set_option linter.unusedSectionVars false
set_option linter.unusedVariables false
set_option linter.unusedSimpArgs false
set_option linter.unusedSectionVars false
namespace Go.Ev
open Go

theorem VR.int_inv {μ : Mu} {k : IntKind} {n : Int} {v : Value} (h : VR μ (.int k n) v) : v = .int k n := by cases h; rfl
def lookOut (ok : Bool) (d : TD) : Option (Nat × Value) → Value
  | some (_, v) => if ok then .tuple #[v, .bool true] else v
  | none => if ok then .tuple #[d.zv, .bool false] else d.zv
def FoundR (μ : Mu) : Option Value → Option (Nat × Value) → Prop
  | none, none => True
  | some v, some (_, v') => VR μ v v'
  | _, _ => False
theorem TD.zv'_eq (d : TD) : d.zv' = d.zv := by
  unfold TD.zv' TD.zv
  cases isAg d.desc <;> simp
  cases d.zero <;> simp

/-- Keys are the same, or they are not. -/
theorem eq1_now {μ : Mu} {kd : TypeDesc} (hk : keyD kd = true) {k k' q q' : Value} {b : Bool} (h1 : VR μ k k') (h2 : VR μ q q') (e : eq1 kd (some k) (some q) = .ok b) :
    Instr.sameNow kd k' q' = some b ∧ (b = true → Instr.sameBits 10000 q' k' = true) := by
  unfold eq1 at e
  split at e
  · cases hk
  · rename_i e1 e2
    simp only [Option.some.injEq] at e1 e2; subst e1; subst e2
    cases h1; cases h2
    obtain ⟨hk2, e⟩ := chk_ok e
    simp only [Except.ok.injEq] at e; subst e
    have hkk := sameK_eq hk2
    subst hkk
    rename_i a c
    have : (a == c) = eqF a c := by rw [Bool.eq_iff_iff, eqF_eq, beq_iff_eq]
    refine ⟨by simp [Instr.sameNow, this], fun hb => ?_⟩
    have hb := eq_of_beq (this.trans hb)
    simp [Instr.sameBits, hb]
  · rename_i e1 e2
    simp only [Option.some.injEq] at e1 e2; subst e1; subst e2
    cases h1; cases h2
    rename_i s1 s2
    simp only [Except.ok.injEq] at e; subst e
    have hb : (s1 == s2) = (s1.data.toList == s2.data.toList) := by
      have : (s1 == s2) = (s1.data == s2.data) := rfl
      rw [this, Bool.eq_iff_iff, beq_iff_eq, beq_iff_eq]
      exact ⟨fun h => by rw [h], fun h => Array.ext' h⟩
    have hb2 : (s2 == s1) = (s1 == s2) := by
      have t1 : (s1 == s2) = (s1.data == s2.data) := rfl
      have t2 : (s2 == s1) = (s2.data == s1.data) := rfl
      rw [t1, t2, Bool.eq_iff_iff, beq_iff_eq, beq_iff_eq]; exact eq_comm
    refine ⟨by simp only [Instr.sameNow, hb], fun h => ?_⟩
    simp only [Instr.sameBits, hb2, hb, h]
  · cases e

theorem findC_now {μ : Mu} {kd : TypeDesc} (hk : keyD kd = true) {k k' : Value} (h1 : VR μ k k') : ∀ {es : List (Value × Value)} {es' : List MapEntry} {r : Option Value} (n : Nat), MapR μ es es' → findC kd k es = .ok r →
    ∃ r', Instr.findNow kd k' es' n = some r' ∧ FoundR μ r r'
  | [], [], r, n, _, e => by
    simp only [findC, Except.ok.injEq] at e; subst e
    exact ⟨none, rfl, trivial⟩
  | (q, v) :: es, e' :: es', r, n, hR, e => by
    unfold findC at e
    obtain ⟨b, hb, e⟩ := bnd_ok e
    obtain ⟨g1, _⟩ := eq1_now hk h1 hR.1 hb
    cases b with
    | true =>
      simp only [Except.ok.injEq] at e; subst e
      exact ⟨some (n, e'.val), by simp only [Instr.findNow, g1], hR.2.1⟩
    | false =>
      obtain ⟨r', g2, g3⟩ := findC_now hk h1 (n + 1) hR.2.2 e
      exact ⟨r', by simp only [Instr.findNow, g1]; exact g2, g3⟩
  | [], _ :: _, _, _, hR, _ => hR.elim
  | _ :: _, [], _, _, hR, _ => hR.elim

theorem MapR.snoc {μ : Mu} : ∀ {es : List (Value × Value)} {es' : List MapEntry} {k v : Value} {x : MapEntry}, MapR μ es es' → VR μ k x.key → VR μ v x.val → MapR μ (es ++ [(k, v)]) (es' ++ [x])
  | [], [], _, _, _, _, h1, h2 => ⟨h1, h2, trivial⟩
  | _ :: es, _ :: es', _, _, _, h, h1, h2 => ⟨h.1, h.2.1, MapR.snoc h.2.2 h1 h2⟩
  | [], _ :: _, _, _, _, h, _, _ => h.elim
  | _ :: _, [], _, _, _, h, _, _ => h.elim

theorem putC_now {μ : Mu} {kd : TypeDesc} (hk : keyD kd = true) {k k' v v' : Value} (h1 : VR μ k k') (h2 : VR μ v v') : ∀ {es es2 : List (Value × Value)} {es' : List MapEntry} (n : Nat), MapR μ es es' → putC kd k v es = .ok es2 →
    (Instr.findNow kd k' es' n = some none ∧ ∀ b, MapR μ es2 (es' ++ [{ key := k', val := v', born := b }])) ∨
    ∃ i v0, Instr.findNow kd k' es' n = some (some (n + i, v0)) ∧ (∃ e0, es'[i]? = some e0 ∧ Instr.sameBits 10000 e0.key k' = true) ∧ MapR μ es2 (es'.modify i fun e => { e with key := k', val := v' })
  | [], es2, [], n, _, e => by
    simp only [putC, Except.ok.injEq] at e; subst e
    exact .inl ⟨rfl, fun b => ⟨h1, h2, trivial⟩⟩
  | (q, u) :: es, es2, e' :: es', n, hR, e => by
    unfold putC at e
    obtain ⟨b, hb, e⟩ := bnd_ok e
    obtain ⟨g1, g4⟩ := eq1_now hk h1 hR.1 hb
    cases b with
    | true =>
      simp only [Except.ok.injEq] at e; subst e
      exact .inr ⟨0, e'.val, by simp only [Instr.findNow, g1]; rfl, ⟨e', rfl, g4 rfl⟩, h1, h2, hR.2.2⟩
    | false =>
      simp only at e
      obtain ⟨es3, he3, e⟩ := bnd_ok e
      simp only [Except.ok.injEq] at e; subst e
      rcases putC_now hk h1 h2 (n + 1) hR.2.2 he3 with ⟨g2, g3⟩ | ⟨i, v0, g2, ⟨e0, g5, g6⟩, g3⟩
      · exact .inl ⟨by simp only [Instr.findNow, g1]; exact g2, fun b => ⟨hR.1, hR.2.1, g3 b⟩⟩
      · refine .inr ⟨i + 1, v0, ?_, ⟨e0, by simpa using g5, g6⟩, ?_⟩
        · simp only [Instr.findNow, g1, g2]
          congr 3; omega
        · simp only [List.modify_succ_cons]
          exact ⟨hR.1, hR.2.1, g3⟩
  | [], _, _ :: _, _, hR, _ => hR.elim
  | _ :: _, _, [], _, hR, _ => hR.elim

section
variable {P : Program} {En : Env} (hE : EnvOk P En) {id base : Nat} {μ : Mu} {h : Hp} {w : World} (hr : HW μ base h w)
  (hb : base ≤ w.heap.size) (hid : id < h.cnt) (hm : μ.m id = none) {tm : Tr Value} {ρ : Operand → Value}
include hE hr hb hid hm

omit hE hr hb hid hm in
theorem checkKey_run {t : TypeId} {d : TD} (hT : TyOk P t d) (hk : keyD d.desc = true) (b : Bool) (v : Value) (w : World) : (Instr.checkKey b 10000 t v).run P w = .ok () w := by
  rw [show (10000 : Nat) = 9999 + 1 from rfl]
  unfold Instr.checkKey
  simp only [Sem.run_bind, hT.runUnder, Result.andThen_ok]
  cases hd : d.desc <;> rw [hd] at hk <;> first | rfl | cases hk

theorem sim_makeMap {o : Oper} {t : TypeId} {r : Option Operand} (ho : o.op = .makeMap t r) (hx : ∀ x, r = some x → VR μ (evo tm x) (ρ x)) {rs : Rs} (e : c_makeMap En id tm h t r = .ok rs) : Sim P id base μ h w rs ((execOp ρ o).run P w) := by
  unfold c_makeMap at e
  obtain ⟨d, hd, e⟩ := bnd_ok e
  have hT := hE.ty (opt_ok hd)
  split at e
  · rename_i kt et hdd
    obtain ⟨u, hu, e⟩ := bnd_ok e
    simp only [Except.ok.injEq] at e; subst e
    have : (execOp ρ o).run P w = .ok (.value (.map (some w.heap.size))) (w.alloc (.map #[] 0)) := by
      simp only [execOp, ho, Instr.makeMap]
      cases r with
      | none => simp
      | some x =>
        have hv := hx x rfl
        simp only at hu
        split at hu
        · rename_i k n hn
          rw [hn] at hv
          have hrx : ρ x = .int k n := hv.int_inv
          have hai : ∀ w, (asInt (.int k n)).run P w = .ok n w := fun w => by simp [asInt, asIntOf]
          simp [hT.runUnder, hdd, hrx, hai]
        · cases hu
    rw [this]
    have hid40 := hr.num40 hid
    have hobs : ∀ x ob', (newAt h id (.map [])).obs.get x = some ob' → (x = id ∧ ob' = .map []) ∨ (x ≠ id ∧ h.obs.get x = some ob') := by
      intro x ob' hx
      simp only [newAt] at hx
      rw [Tr.get_put _ _ _ _ hid40] at hx
      split at hx
      · simp only [Option.some.injEq] at hx; exact .inl ⟨by assumption, hx.symm⟩
      · exact .inr ⟨by assumption, hx⟩
    refine ⟨μ.add id w.heap.size 0 0, _, _, rfl, .inl ⟨_, rfl, .map (by simp [Mu.add])⟩, ⟨HR.alloc hr.toHR hm hb rfl hobs (Nat.le_refl _) hid hr.cnt (o := .map #[] 0) trivial rfl ?_, hr.fo⟩, ?_⟩
    · intro b k f hbk hf
      rcases hobs _ _ hbk with ⟨_, he⟩ | ⟨_, ho⟩
      · cases he
      · exact hr.fam ho hf
    · refine ⟨Mu.le_add hm hr.fresh, Nat.le_refl _, fun x _ hx hgx => by simp only [newAt]; rw [Tr.get_put _ _ _ _ hid40, if_neg hx]; exact hgx, fun x B h1 h2 => ?_, by simp, fun B hB _ => heap_alloc_old w _ B hB, rfl, rfl, rfl⟩
      by_cases ex : x = id
      · rw [ex] at h2; simp only [Mu.add, if_true] at h2; cases h2
        exact ⟨.inl ex, .inl (Nat.le_refl _)⟩
      · simp [Mu.add, ex, h1] at h2
  · cases e

theorem sim_lookup {o : Oper} {t : TypeId} {x i : Operand} {ok : Bool} (ho : o.op = .lookup t x i ok) (hx : VR μ (evo tm x) (ρ x)) (hi : VR μ (evo tm i) (ρ i)) {rs : Rs} (e : c_lookup En id tm h t x i ok = .ok rs) : Sim P id base μ h w rs ((execOp ρ o).run P w) := by
  unfold c_lookup at e
  obtain ⟨d, hd, e⟩ := bnd_ok e
  have hT := hE.ty (opt_ok hd)
  split at e
  · rename_i kt et hdd
    obtain ⟨dk, hdk, e⟩ := bnd_ok e
    obtain ⟨de, hde, e⟩ := bnd_ok e
    obtain ⟨hk, e⟩ := chk_ok e
    obtain ⟨es, hes, e⟩ := bnd_ok e
    obtain ⟨r, hr1, e⟩ := bnd_ok e
    simp only [Except.ok.injEq] at e; subst e
    have hTk := hE.ty (opt_ok hdk)
    have hTe := hE.ty (opt_ok hde)
    generalize hvx : evo tm x = vx at hx hes
    generalize hra : ρ x = rx at hx
    have hrx : (rx = .map none ∧ es = []) ∨ ∃ R es' clk, rx = .map (some R) ∧ (getObj R).run P w = .ok (.map es' clk) w ∧ MapR μ es es'.toList := by
      split at hes
      · simp only [Except.ok.injEq] at hes; subst hes
        cases hx
        exact .inl ⟨rfl, rfl⟩
      · rename_i r0
        split at hes
        · rename_i es0 hg
          simp only [Except.ok.injEq] at hes; subst hes
          cases hx with
          | map hR =>
          obtain ⟨ob, hob, hR2⟩ := hr.ob hg hR
          cases ob <;> simp only [ObR] at hR2
          rename_i R es' clk
          exact .inr ⟨R, es', clk, rfl, by simp [getObj, Sem.run, hob], hR2⟩
        · cases hes
      · cases hes
    have hz : ∀ w, (zeroValue et).run P w = .ok de.zv w := fun w => hTe.runZero w
    have hgo : ∃ r', (execOp ρ o).run P w = .ok (.value (lookOut ok de r')) w ∧ FoundR μ r r' := by
      rcases hrx with ⟨rfl, rfl⟩ | ⟨R, es', clk, rfl, hgo, hM⟩
      · obtain ⟨r', g1, g2⟩ := findC_now hk hi (es' := []) 0 (by trivial) hr1
        refine ⟨r', ?_, g2⟩
        simp only [execOp, ho, hra, Instr.lookup, Sem.run_bind, hT.runUnder, Result.andThen_ok, hdd]
        simp only [Result.andThen_ok, Sem.run_bind, Sem.run_pure, checkKey_run hTk hk, Instr.findKey, hTk.runUnder, g1]
        cases r' with
        | none => simp [hz, lookOut]
        | some p => obtain ⟨a, v⟩ := p; simp [lookOut]
      · obtain ⟨r', g1, g2⟩ := findC_now hk hi 0 hM hr1
        refine ⟨r', ?_, g2⟩
        simp only [execOp, ho, hra, Instr.lookup, Sem.run_bind, hT.runUnder, Result.andThen_ok, hdd]
        simp only [Result.andThen_ok, Sem.run_bind, Sem.run_pure, hgo, checkKey_run hTk hk, Instr.findKey, hTk.runUnder, g1]
        cases r' with
        | none => simp [hz, lookOut]
        | some p => obtain ⟨a, v⟩ := p; simp [lookOut]
    obtain ⟨r', this, g2⟩ := hgo
    rw [this]
    rw [TD.zv'_eq]
    cases r with
    | none =>
      cases r' with
      | none =>
        cases ok
        · exact Did.same hr (TD.zv_rel hTe μ)
        · exact Did.same hr (.tuple (.cons (TD.zv_rel hTe μ) (.cons (.bool _) .nil)))
      | some p => exact g2.elim
    | some v =>
      cases r' with
      | none => exact g2.elim
      | some p =>
        obtain ⟨a, v'⟩ := p
        cases ok
        · exact Did.same hr g2
        · exact Did.same hr (.tuple (.cons g2 (.cons (.bool _) .nil)))
  · cases e

theorem sim_mapUpdate {o : Oper} {t : TypeId} {m k x : Operand} (ho : o.op = .mapUpdate t m k x ∨ o.op = .insert t m k x) (hx : VR μ (evo tm m) (ρ m)) (hk' : VR μ (evo tm k) (ρ k)) (hv : VR μ (evo tm x) (ρ x)) {rs : Rs} (e : c_mapUpdate En id tm h t m k x = .ok rs) :
    Sim P id base μ h w rs ((execOp ρ o).run P w) := by
  unfold c_mapUpdate at e
  obtain ⟨d, hd, e⟩ := bnd_ok e
  have hT := hE.ty (opt_ok hd)
  split at e
  · rename_i kt et hdd
    obtain ⟨dk, hdk, e⟩ := bnd_ok e
    obtain ⟨hk, e⟩ := chk_ok e
    have hTk := hE.ty (opt_ok hdk)
    generalize evo tm m = vm at hx e
    generalize hra : ρ m = rm at hx
    split at e
    · rename_i r
      split at e
      · rename_i es hg
        obtain ⟨es2, hp, e⟩ := bnd_ok e
        simp only [Except.ok.injEq] at e; subst e
        cases hx with
        | map hR =>
        rename_i R
        obtain ⟨ob, hob, hR2⟩ := hr.ob hg hR
        cases ob <;> simp only [ObR] at hR2
        rename_i es' clk
        have hgo : (getObj R).run P w = .ok (.map es' clk) w := by simp [getObj, Sem.run, hob]
        have hso : ∀ o', (setObj R o').run P w = .ok () (w.putObj R o') := by intro o'; simp [setObj, Sem.run, hob, World.putObj]
        have hex : execOp ρ o = (do Instr.mapUpdate t (ρ m) (ρ k) (ρ x); pure .skip) := by
          rcases ho with ho | ho <;> simp only [execOp, ho]
        have key : ∃ o', (execOp ρ o).run P w = .ok .skip (w.putObj R o') ∧ ObR μ R (.map es2) o' := by
          rcases putC_now hk hk' hv 0 hR2 hp with ⟨g1, g2⟩ | ⟨i, v0, g1, ⟨e0, g2, g3⟩, g4⟩
          · refine ⟨.map (es'.push { key := ρ k, val := ρ x, born := clk }) (clk + 1), ?_, ?_⟩
            · simp only [hex, Instr.mapUpdate, hra, Sem.run_bind, hT.runUnder, Result.andThen_ok, hdd, hgo, checkKey_run hTk hk, Instr.findKey, hTk.runUnder, g1, Sem.run_pure, hso]
            · simp only [ObR, Array.toList_push]; exact g2 clk
          · refine ⟨.map (es'.modify i fun e => { e with key := ρ k, val := ρ x }) clk, ?_, ?_⟩
            · have g2' : es'[i]? = some e0 := by rw [← Array.getElem?_toList]; exact g2
              simp only [Nat.zero_add] at g1
              simp only [hex, Instr.mapUpdate, hra, Sem.run_bind, hT.runUnder, Result.andThen_ok, hdd, hgo, checkKey_run hTk hk, Instr.findKey, hTk.runUnder, g1, Sem.run_pure, Instr.keyThatStays, g2', Option.map_some, Option.getD_some, g3, if_true, hso]
            · simp only [ObR, Array.toList_modify]; exact g4
        obtain ⟨o', hrun, hRo⟩ := key
        rw [hrun]
        obtain ⟨g1, g2⟩ := turn_ob hE hr hb hid hm hR hg rfl (ob := .map es2) (o := o') rfl hRo
        exact ⟨μ, _, _, rfl, .inr ⟨rfl, rfl⟩, g1, g2⟩
      · cases e
    · cases e
  · cases e
end
end Go.Ev
