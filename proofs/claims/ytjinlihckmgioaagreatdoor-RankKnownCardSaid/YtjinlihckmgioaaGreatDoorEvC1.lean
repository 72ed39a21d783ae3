/-
  By an AI agent: a part of the proof of this claim; what is proved stands in the text YtjinlihckmgioaaGreatDoorMain.
-/
import Derived.Test.YtjinlihckmgioaaGreatDoorEvOp11
import Derived.RangeFuncNested
set_option linter.unusedVariables false
set_option linter.unusedSimpArgs false
set_option linter.unusedSectionVars false
set_option linter.unusedVariables false
set_option linter.unusedSimpArgs false
set_option linter.unusedSectionVars false
namespace Go.Ev
open Go

/-- The fence of activations in which nothing is shut out. -/
abbrev Fw (r : Option Nat) : Fence := { fn := fun _ => True, depth := none, alive := false, round := r }

def RoR (μ : Mu) : Option Nat → Option Nat → Prop
  | none, none => True
  | some l, some L => μ.m l = some L
  | _, _ => False

theorem RoR.mono {μ μ' : Mu} (hle : μ.le μ') {a b : Option Nat} (h : RoR μ a b) : RoR μ' a b := by
  cases a <;> cases b <;> first | exact h | exact hle.m h

theorem undef_rel (μ : Mu) : VR μ undef undef := .tuple .nil

theorem TmR.put {μ : Mu} {tm : Tr Value} {nt : Nat} {tmps : Array Value} (h : TmR μ tm nt tmps) {d : Nat} (hd : d < nt) {v v' : Value} (hv : VR μ v v') : TmR μ (tm.put d v) nt (tmps.setIfInBounds d v') := by
  obtain ⟨h1, h2, h3⟩ := h
  have hp := pow40
  refine ⟨by simp [h1], h2, fun t => ?_⟩
  have := h3 t
  simp only [evo] at this ⊢
  rw [Tr.get_put _ _ _ _ (by omega)]
  by_cases e : t = d
  · subst e
    rw [if_pos rfl]
    simp only
    rw [show (tmps.setIfInBounds t v').getD t undef = v' by simp [Array.getD_eq_getD_getElem?, h1, hd]]
    exact hv
  · rw [if_neg e]
    rw [show (tmps.setIfInBounds d v').getD t undef = tmps.getD t undef by simp [Array.getD_eq_getD_getElem?, Array.getElem?_setIfInBounds, Ne.symm e]]
    exact this

theorem putD_rel {μ : Mu} {s s' : St} {dst : Option Tmp} {v v' : Value} {h : Hp} {a : Act} (ht : TmR μ s.tm s.nt a.tmps) (hv : VR μ v v') (e : putD s dst v h = .ok s') :
    s'.hp = h ∧ s'.nt = s.nt ∧ s'.ro = s.ro ∧ TmR μ s'.tm s'.nt (a.put dst v').tmps ∧ (a.put dst v').defers = a.defers := by
  unfold putD at e
  cases dst with
  | none => simp only [Except.ok.injEq] at e; subst e; exact ⟨rfl, rfl, rfl, ht, rfl⟩
  | some d =>
    simp only at e
    obtain ⟨h1, e1⟩ := chk_ok e
    simp only [Except.ok.injEq] at e1; subst e1
    exact ⟨rfl, rfl, rfl, ht.put (blt_true h1) hv, rfl⟩

theorem putPs_rel {μ : Mu} {nt : Nat} : ∀ {ps : List Tmp} {vs vs' : List Value} {tm tm' : Tr Value} {tmps : Array Value}, TmR μ tm nt tmps → VRL μ vs vs' → putPs tm nt ps vs = .ok tm' →
    vs.length = ps.length ∧ TmR μ tm' nt ((ps.zip vs').foldl (fun tmps (t, a) => tmps.setIfInBounds t a) tmps)
  | [], _, _, tm, tm', tmps, ht, .nil, e => by simp only [putPs, Except.ok.injEq] at e; subst e; exact ⟨rfl, ht⟩
  | p :: ps, _, _, tm, tm', tmps, ht, .cons hv hs, e => by
    simp only [putPs] at e
    obtain ⟨h1, e1⟩ := chk_ok e
    have := putPs_rel (ht.put (blt_true h1) hv) hs e1
    exact ⟨by simp [this.1], by simpa using this.2⟩
  | [], _, _, _, _, _, _, .cons _ _, e => by simp [putPs] at e
  | _ :: _, _, _, _, _, _, _, .nil, e => by simp [putPs] at e

theorem TmR.enter {μ : Mu} {args args' : List Value} (h : VRL μ args args') {n : Nat} (hl : args.length ≤ n) (hn : n < maxCnt) :
    TmR μ (Tr.ofList args) n (args'.toArray ++ Array.replicate (n - args'.toArray.size) undef) := by
  have hlen := h.length
  have hp := pow40
  have hm : maxCnt = 1000000000 := rfl
  refine ⟨by simp; omega, by omega, fun t => ?_⟩
  simp only [evo]
  rw [Tr.get_ofList _ _ (by omega)]
  rcases h.get t with ⟨e1, e2⟩ | ⟨x, y, e1, e2, hxy⟩
  · rw [e1]
    simp only
    have hge : args'.length ≤ t := List.getElem?_eq_none_iff.1 e2
    have : (args'.toArray ++ Array.replicate (n - args'.toArray.size) undef).getD t undef = undef := by
      rw [Array.getD_eq_getD_getElem?, Array.getElem?_append_right (by simpa using hge), Array.getElem?_replicate]
      split <;> rfl
    rw [this]; exact undef_rel μ
  · rw [e1]
    simp only
    have hlt : t < args'.length := (List.getElem?_eq_some_iff.1 e2).1
    have : (args'.toArray ++ Array.replicate (n - args'.toArray.size) undef).getD t undef = y := by
      rw [Array.getD_eq_getD_getElem?, Array.getElem?_append_left (by simpa using hlt), List.getElem?_toArray, e2]; rfl
    rw [this]; exact hxy

/-! Blocks of which the canonical heap knows nothing -/
def Idle (μ : Mu) (h : Hp) (w : World) (D : Nat) : Prop :=
  w.heap[D]? = some (.deferred (some [])) ∧ ∀ b ob, μ.m b = some D → h.obs.get b ≠ some ob

theorem Mv.alive {I : Nat → Prop} {μ μ' : Mu} {h h' : Hp} {w w' : World} (a : Mv I μ h w μ' h' w') (hold : ∀ {x B}, μ.m x = some B → x < h.cnt) (hI : ∀ x, I x → μ.m x = none) {B x : Nat} {ob : Ob}
    (hx : μ'.m x = some B) (hob : h'.obs.get x = some ob) : w.heap.size ≤ B ∨ ∃ x ob, μ.m x = some B ∧ h.obs.get x = some ob := by
  cases hm : μ.m x with
  | none => exact (a.new x B hm hx).2
  | some B' =>
    have := a.le.m hm
    rw [hx] at this; cases this
    cases hg : h.obs.get x with
    | some ob' => exact .inr ⟨x, ob', hm, hg⟩
    | none =>
      rw [a.dead x (hold hm) (fun hi => by rw [hI x hi] at hm; cases hm) hg] at hob
      cases hob

theorem Idle.mv {I : Nat → Prop} {μ μ' : Mu} {h h' : Hp} {w w' : World} {D : Nat} (hd : Idle μ h w D) (a : Mv I μ h w μ' h' w') (hold : ∀ {x B}, μ.m x = some B → x < h.cnt) (hI : ∀ x, I x → μ.m x = none) : Idle μ' h' w' D := by
  have hlt : D < w.heap.size := (Array.getElem?_eq_some_iff.1 hd.1).1
  refine ⟨by rw [a.frame D hlt hd.2]; exact hd.1, fun b ob hb hg => ?_⟩
  rcases a.alive hold hI hb hg with h | ⟨x, ob', h1, h2⟩
  · omega
  · exact hd.2 x ob' h1 h2

theorem HW.push {μ : Mu} {base : Nat} {h : Hp} {w w' : World} (hr : HW μ base h w) {o : Obj} (e : w'.heap = w.heap.push o) : HW μ base h w' := by
  refine ⟨⟨fun {b ob B} hb hB => ?_, hr.grp, hr.inj, hr.fam, hr.cnt, hr.old, fun {b B} hB => ?_⟩, hr.fo⟩
  · obtain ⟨o', ho, hR⟩ := hr.ob hb hB
    refine ⟨o', ?_, hR⟩
    have := (hr.oldm hB).2.2
    rw [e, Array.getElem?_push, if_neg (by omega)]; exact ho
  · have := hr.oldm hB
    rw [e]; simp; omega

theorem Mv.push {I : Nat → Prop} {μ : Mu} {h : Hp} {w w' : World} {o : Obj} (e : w'.heap = w.heap.push o) (hos : w'.os = w.os) (hou : w'.output = w.output) (hta : w'.tape = w.tape) : Mv I μ h w μ h w' :=
  ⟨.refl μ, Nat.le_refl _, fun _ _ _ h => h, fun x B h1 h2 => (by rw [h1] at h2; cases h2), by rw [e]; simp, fun B hB _ => by rw [e, Array.getElem?_push, if_neg (by omega)], hos, hou, hta⟩

/-- A block of which the canonical heap knows nothing is turned. -/
theorem HW.idle {μ : Mu} {base : Nat} {h : Hp} {w : World} (hr : HW μ base h w) {D : Nat} (hd : ∀ b ob, μ.m b = some D → h.obs.get b ≠ some ob) (o : Obj) : HW μ base h (w.putObj D o) := by
  refine ⟨⟨fun {b ob B} hb hB => ?_, hr.grp, hr.inj, hr.fam, hr.cnt, hr.old, fun {b B} hB => ?_⟩, hr.fo⟩
  · obtain ⟨o', ho, hR⟩ := hr.ob hb hB
    refine ⟨o', ?_, hR⟩
    rw [putObj_heap, if_neg]
    · exact ho
    · rintro ⟨rfl, _⟩; exact hd b ob hB hb
  · have := hr.oldm hB
    simp; omega

/-- A count that grows. -/
theorem HW.bump {μ : Mu} {base : Nat} {h h' : Hp} {w : World} (hr : HW μ base h w) (ho : h'.obs = h.obs) (hf : h'.fams = h.fams) (hc : h.cnt ≤ h'.cnt) (hm : h'.cnt ≤ maxCnt) : HW μ base h' w := by
  refine ⟨⟨fun {b ob B} hb hB => hr.ob (by rw [← ho]; exact hb) hB, fun {b ob B} hb hB => hr.grp (by rw [← ho]; exact hb) hB, hr.inj, fun {b k f} hb hk => ?_, hm, fun {b ob} hb => ?_, fun {b B} hB => ?_⟩, fun f st hs => ⟨(hr.fo f st (by rw [← hf]; exact hs)).1, fun c s hc' => ?_⟩⟩
  · rw [ho] at hb
    obtain ⟨h1, st, h2, h3⟩ := hr.fam hb hk
    exact ⟨by omega, st, by rw [hf]; exact h2, h3⟩
  · rw [ho] at hb; have := hr.old hb; omega
  · have := hr.oldm hB; omega
  · rw [hf] at hs; have := (hr.fo f st hs).2 c s hc'; omega

theorem Mv.bump {I : Nat → Prop} {μ : Mu} {h h' : Hp} {w : World} (ho : h'.obs = h.obs) (hc : h.cnt ≤ h'.cnt) : Mv I μ h w μ h' w :=
  ⟨.refl μ, hc, fun x _ _ hx => by rw [ho]; exact hx, fun x B h1 h2 => (by rw [h1] at h2; cases h2), Nat.le_refl _, fun _ _ _ => rfl, rfl, rfl, rfl⟩

/-- What one step after another keeps, where neither lays a block at a number that was free. -/
theorem Mv.then {μ μ1 μ2 : Mu} {h h1 h2 : Hp} {w w1 w2 : World} {base : Nat} (hr : HW μ base h w) (a : Mv (fun _ => False) μ h w μ1 h1 w1) (b : Mv (fun _ => False) μ1 h1 w1 μ2 h2 w2) : Mv (fun _ => False) μ h w μ2 h2 w2 :=
  (a.trans b (fun hx => (hr.oldm hx).1) (fun _ h => h.elim)).mono fun _ h => h.elim id id

theorem HW.fr {μ : Mu} {base : Nat} {h : Hp} {w : World} (hr : HW μ base h w) {x : Nat} (hx : h.cnt ≤ x) : h.obs.get x = none ∧ μ.m x = none := by
  refine ⟨?_, ?_⟩
  · cases hg : h.obs.get x with
    | none => rfl
    | some ob => have := hr.old hg; omega
  · cases hg : μ.m x with
    | none => rfl
    | some B => have := (hr.oldm hg).1; omega

/-! Results -/
theorem ldv_rel {P : Program} {base : Nat} {μ : Mu} {h : Hp} {w : World} (hr : HW μ base h w) {t : TypeId} {d : TD} (hT : TyOk P t d) {b B o : Nat} (hbB : μ.m b = some B) {v : Value} (e : ldv d h b o = .ok v) : ∃ v', (loadVar t ⟨B, o, none⟩).run P w = .ok v' w ∧ VR μ v v' := by
  unfold ldv at e
  cases ha : isAg d.desc with
  | true =>
    simp only [ha] at e
    obtain ⟨cs, hcs, e⟩ := bnd_ok e
    simp only [Except.ok.injEq] at e
    subst e
    unfold rd at hcs
    obtain ⟨k, hk, hcs⟩ := bnd_ok hcs
    obtain ⟨hl, hcs⟩ := chk_ok hcs
    have hl := Nat.le_of_ble_eq_true hl
    simp only [Except.ok.injEq] at hcs
    subst hcs
    obtain ⟨ob, hob, hR⟩ := hr.ob (getBlk_ok hk) hbB
    cases ob with
    | cells c el fr =>
      simp only [ObR] at hR
      refine ⟨.agg (c.extract o (o + d.size)), ?_, .agg (by rw [List.toList_toArray]; exact rdc_rel hR.2 d.size o hl)⟩
      simp only [loadVar, Sem.run_bind, hT.runAgg, Result.andThen, ha, if_true, hT.runSize]
      rw [run_loadCells' P hob (by have := hR.2.2.1; omega)]
      rfl
    | _ => simp [ObR] at hR
  | false =>
    simp only [ha] at e
    obtain ⟨cs, hcs, e⟩ := bnd_ok e
    unfold rd at hcs
    obtain ⟨k, hk, hcs⟩ := bnd_ok hcs
    obtain ⟨hl, hcs⟩ := chk_ok hcs
    have hl := Nat.le_of_ble_eq_true hl
    simp only [Except.ok.injEq] at hcs
    subst hcs
    simp only [rdc_zero, rdc_succ, Except.ok.injEq] at e
    subst e
    obtain ⟨ob, hob, hR⟩ := hr.ob (getBlk_ok hk) hbB
    cases ob with
    | cells c el fr =>
      simp only [ObR] at hR
      have hlt : o < c.size := by have := hR.2.2.1; omega
      refine ⟨c[o], ?_, ?_⟩
      · simp only [loadVar, Sem.run_bind, hT.runAgg, Result.andThen, ha, Bool.false_eq_true, if_false]
        rw [run_load, cell_of hob, Array.getElem?_eq_getElem hlt]
      · cases hgo : k.cells.get o with
        | none => exact .psn _
        | some v =>
          obtain ⟨v', hv', hrel⟩ := hR.2.2.2.2.2 o v (by omega) hgo
          rw [Array.getElem?_eq_getElem hlt] at hv'
          cases hv'; exact hrel
    | _ => simp [ObR] at hR

def resOf (tmps : Array Value) : ResultVar → Sem Value
  | .tmp t => pure (tmps.getD t undef)
  | .cell a t => do loadVar t (← asAddr (tmps.getD a undef))

theorem resCs_run {P : Program} {En : Env} (hE : EnvOk P En) {base : Nat} {μ : Mu} {h : Hp} {w : World} (hr : HW μ base h w) {tm : Tr Value} {nt : Nat} {tmps : Array Value} (ht : TmR μ tm nt tmps) : ∀ {rs : List ResultVar} {vs : List Value}, resCs En tm h rs = .ok vs →
    ∃ vs' : List Value, (rs.mapM (resOf tmps)).run P w = .ok vs' w ∧ VRL μ vs vs'
  | [], vs, e => by simp only [resCs, Except.ok.injEq] at e; subst e; exact ⟨[], by simp, .nil⟩
  | r :: rs, vs, e => by
    simp only [resCs] at e
    obtain ⟨v, hv, e1⟩ := bnd_ok e
    obtain ⟨vs1, hvs, e2⟩ := bnd_ok e1
    simp only [Except.ok.injEq] at e2; subst e2
    obtain ⟨vs', hrun, hrel⟩ := resCs_run hE hr ht hvs
    have key : ∃ v', (resOf tmps r).run P w = .ok v' w ∧ VR μ v v' := by
      cases r with
      | tmp t =>
        simp only [resC, Except.ok.injEq] at hv; subst hv
        exact ⟨_, rfl, ht.2.2 t⟩
      | cell a t =>
        simp only [resC] at hv
        obtain ⟨d, hd, hv1⟩ := bnd_ok hv
        have hT := hE.ty (opt_ok hd)
        have hta := ht.2.2 a
        generalize evo tm (.tmp a) = va at hta hv1
        generalize hra : tmps.getD a undef = ra at hta
        cases hta <;> simp only [reduceCtorEq] at hv1
        rename_i b B o hbB
        obtain ⟨v', q1, q2⟩ := ldv_rel (P := P) hr hT hbB hv1
        exact ⟨v', by simp only [resOf, hra, Sem.run_bind, asAddr, Sem.run_pure, Result.andThen_ok, q1], q2⟩
    obtain ⟨v', q1, q2⟩ := key
    exact ⟨v' :: vs', by rw [List.mapM_cons]; simp only [Sem.run_bind, q1, Result.andThen_ok, hrun, Sem.run_pure], .cons q2 hrel⟩
end Go.Ev
