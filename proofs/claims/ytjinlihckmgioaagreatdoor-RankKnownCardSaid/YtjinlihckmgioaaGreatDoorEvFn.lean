/-
  By an AI agent: a part of the proof of this claim; what is proved stands in the text YtjinlihckmgioaaGreatDoorMain.
-/
import Derived.Test.YtjinlihckmgioaaGreatDoorEvCc
import Derived.Test.YtjinlihckmgioaaGreatDoorEvC7
set_option linter.unusedVariables false
set_option linter.unusedSimpArgs false
set_option linter.unusedSectionVars false
set_option linter.unusedVariables false
set_option linter.unusedSimpArgs false
namespace Go.Ev
open Go Go.RowKit
noncomputable section

variable {F : Type}
def getL : List Value → Nat → Value
  | [], _ => undef
  | x :: _, 0 => x
  | _ :: r, n + 1 => getL r n
def iniD (T : FrT F) (ps : List Nat) (args : List Value) : F := T.ofL (ps.map fun p => getL args p)
def resL (En : Env) (m : AL) (h : Hp) : List ResultVar → E (List Value)
  | [] => .ok []
  | r :: rs => bnd (match r with
      | .tmp t => match lookA m t with | some v => .ok v | none => .error 320
      | .cell a t => match lookA m a with
        | some (.pointer (some ad)) => (match En.ty.get t with | some d => ldv d h ad.block ad.off | none => .error 321)
        | _ => .error 322) fun v => bnd (resL En m h rs) fun vs => .ok (v :: vs)
abbrev Run := Orc → List Value → Hp → E (Value × Hp)
def runT (En : Env) (T : FrT F) (ps : List Nat) (nt : Nat) (results : List ResultVar) (cc : Cc F) : Run := fun orc args h =>
  ifK (Nat.ble args.length nt && Nat.blt nt maxCnt) 154 <|
  bndF (evC orc cc (iniD T ps args) h) fun q =>
  @Ex.rec (fun _ => E (Value × Hp)) (bndF (resL En (ps.zip (T.toL q.f)) q.h results) fun vs => .ok (outV vs, q.h)) (fun _ => .error 155)
    (bndF (resL En (ps.zip (T.toL q.f)) q.h results) fun vs => .ok (outV vs, q.h)) q.x

def TOk (En : Env) (bigN : Nat) (g : Nat) (r : Run) : Prop :=
  ∀ (orc : Orc) (N : Nat), OrS orc (runRs En (evN En N)) → ∀ (args : List Value) (h hp : Hp) (q : Value × Hp), HSub h hp → r orc args h = .ok q → ∃ q', callW En (evN En (N + bigN)) g args hp = .ok q' ∧ q.1 = q'.1 ∧ HSub q.2 q'.2

theorem getL_eq : ∀ (l : List Value) (n : Nat), getL l n = (l[n]?).getD undef
  | [], n => by simp [getL]
  | x :: r, 0 => by simp [getL]
  | x :: r, n + 1 => by simp [getL, getL_eq r n]

theorem resL_ok {En : Env} {m : AL} {tm : Tr Value} (hm : KnA m tm) {h : Hp} : ∀ {rs : List ResultVar} {vs : List Value}, resL En m h rs = .ok vs → resCs En tm h rs = .ok vs
  | [], vs, e => e
  | r :: rs, vs, e => by
    simp only [resL] at e
    obtain ⟨v, h1, e⟩ := bnd_ok e
    obtain ⟨vs', h2, e⟩ := bnd_ok e
    have h3 := resL_ok hm h2
    have h4 : resC En tm h r = .ok v := by
      cases r with
      | tmp t =>
        simp only at h1
        split at h1
        · rename_i v0 hv
          simp only [Except.ok.injEq] at h1; subst h1
          simp only [resC, hm t v0 hv]
        · cases h1
      | cell a t =>
        simp only at h1
        split at h1
        · rename_i ad hv
          split at h1
          · rename_i d hd
            simp only [resC, hd, opt, bnd, hm a _ hv]
            exact h1
          · cases h1
        · cases h1
    simp only [resCs, h4, bnd, h3]
    exact e

theorem runT_ok {En : Env} {bigN : Nat} {T : FrT F} {ps : List Nat} {nt : Nat} {results : List ResultVar} {cc : Cc F} {g : Nat} {body : Cd} (hf : En.fn.get g = some { ntmps := nt, results := results, body := body }) (hn : ps.length = T.n)
    (hc : cc = mkCc En T ps nt body) (hM : Nat.ble (need body) bigN = true) : TOk En bigN g (runT En T ps nt results cc) := by
  intro orc N hO args h hp0 q hh e
  unfold runT at e
  obtain ⟨h1, e⟩ := ifK_ok e
  rw [bndF_eq] at e
  obtain ⟨o, h2, e⟩ := bnd_ok e
  have hM := Nat.le_of_ble_eq_true hM
  have hl : args.length ≤ nt ∧ nt < maxCnt := by
    simp only [Bool.and_eq_true] at h1
    exact ⟨Nat.le_of_ble_eq_true h1.1, blt_true h1.2⟩
  have hp := pow40b
  have hF : FrR T ps (iniD T ps args) (Tr.ofList args) := by
    unfold FrR iniD
    rw [T.ok _ (by simp [hn])]
    refine List.map_congr_left fun p hp => ?_
    simp only [evo]
    rw [Tr.get_ofList args p (by omega), getL_eq]
    cases args[p]? <;> rfl
  rw [hc] at h2
  obtain ⟨s', g1, g2, g3, g4, g5⟩ := (mkCc_ok hO hn body).mono (Nat.add_le_add_left hM N) { tm := Tr.ofList args, nt := nt, ro := none, hp := hp0 } _ _ _ hh hF h2
  have hk : KnA (ps.zip (T.toL o.f)) s'.tm := by
    intro t v h
    rw [g2] at h
    exact lookA_zip (fun p => evo s'.tm (.tmp p)) ps h
  unfold callW
  simp only [hf, opt, bnd, h1, chk, g1]
  have key : bndF (resL En (ps.zip (T.toL o.f)) o.h results) (fun vs => (.ok (outV vs, o.h) : E (Value × Hp))) = .ok q → ∃ q', bnd (resCs En s'.tm s'.hp results) (fun vs => (.ok (outV vs, s'.hp) : E (Value × Hp))) = .ok q' ∧ q.1 = q'.1 ∧ HSub q.2 q'.2 := by
    intro e
    rw [bndF_eq] at e
    obtain ⟨vs, h3, e⟩ := bnd_ok e
    simp only [Except.ok.injEq] at e; subst e
    rw [resCs_sub g5 (resL_ok hk h3)]
    exact ⟨_, rfl, rfl, g5⟩
  cases hx : o.x with
  | normal => rw [hx] at e; exact key e
  | ret => rw [hx] at e; exact key e
  | exit i => rw [hx] at e; cases e

abbrev Tab := Tr Run
def ofAL {α : Type} : List (Nat × α) → Tr α
  | [] => .leaf
  | (i, x) :: r => (ofAL r).put i x
def AllOk (En : Env) (bigN : Nat) : List (Nat × Run) → Prop
  | [] => True
  | (g, r) :: l => g < maxCnt ∧ TOk En bigN g r ∧ AllOk En bigN l
theorem AllOk.get {En : Env} {bigN : Nat} : ∀ {l : List (Nat × Run)}, AllOk En bigN l → ∀ {g : Nat} {r : Run}, (ofAL l).get g = some r → TOk En bigN g r
  | [], _, g, r, e => by cases e
  | (i, x) :: l, h, g, r, e => by
    have hp := pow40b
    have := h.1
    simp only [ofAL] at e
    rw [Tr.get_put _ _ _ _ (by omega)] at e
    split at e
    · rename_i hg
      simp only [Option.some.injEq] at e
      subst e; rw [hg]; exact h.2.1
    · exact AllOk.get h.2.2 e

def evXF (En : Env) (orc : Orc) (n : Nat) : Evl := @Nat.rec (fun _ => Evl) (fun _ _ => .error 0) (fun _ ih => evStepG En orc ih) n
theorem evXF_eq (En : Env) (orc : Orc) : ∀ n, evXF En orc n = evX En orc n
  | 0 => rfl
  | n + 1 => by
    show evStepG En orc (evXF En orc n) = _
    rw [evXF_eq En orc n]; rfl

def orcN (En : Env) (tab : Tab) (xFuel n : Nat) : Orc :=
  @Nat.rec (fun _ => Orc) (fun _ => .error 0)
    (fun _ ih rs => @Rs.casesOn (fun _ => E (Value × Hp)) rs (fun v h => .ok (v, h))
      (fun f args h => @Option.rec Run (fun _ => E (Value × Hp)) (callW En (evXF En ih xFuel) f args h) (fun r => r ih args h) (getF tab f))
      (fun l args h => yieldW (evXF En ih xFuel) l args h)) n

theorem evX_sub {En : Env} {orc : Orc} {N : Nat} (hO : OrS orc (runRs En (evN En N))) : ∀ n, EvS (evX En orc n) (evN En (N + n))
  | 0 => fun c s t r _ h => by cases h
  | n + 1 => fun c s t r hs h => by
    have h1 : evN En (N + (n + 1)) c t = evStep En (evN En (N + n)) c t := rfl
    have hO' : OrS orc (runRs En (evN En (N + n))) := fun x y q hxy hq => by
      obtain ⟨q', k1, k2⟩ := hO x y q hxy hq
      exact ⟨q', runN_mono En (Nat.le_add_right N n) _ _ k1, k2⟩
    obtain ⟨q', k1, k2⟩ := evStepG_sub hO' (evX_sub hO n) _ _ _ _ hs h
    exact ⟨q', by rw [h1, evStepG_eq]; exact k1, k2⟩

theorem EvS.mono {En : Env} {e : Evl} {N M : Nat} (h : EvS e (evN En N)) (hM : N ≤ M) : EvS e (evN En M) := fun c s t q hs he => by
  obtain ⟨q', k1, k2⟩ := h c s t q hs he
  exact ⟨q', evN_mono En hM _ _ _ k1, k2⟩

/-- One level of calls more. -/
def orcS (En : Env) (tab : Tab) (xFuel : Nat) (ih : Orc) : Orc := fun rs => @Rs.casesOn (fun _ => E (Value × Hp)) rs (fun v h => .ok (v, h))
      (fun f args h => @Option.rec Run (fun _ => E (Value × Hp)) (callW En (evXF En ih xFuel) f args h) (fun r => r ih args h) (getF tab f))
      (fun l args h => yieldW (evXF En ih xFuel) l args h)
theorem orcS_ok {En : Env} {bigN : Nat} {l : List (Nat × Run)} (hl : AllOk En bigN l) (xFuel : Nat) {ih : Orc} {N : Nat} (hN : OrS ih (runRs En (evN En N))) : OrS (orcS En (ofAL l) xFuel ih) (runRs En (evN En (N + bigN + xFuel))) := by
  intro x y q hxy h
  cases x with
  | val v h0 =>
    cases y with
    | val v' h0' => simp only [orcS, Except.ok.injEq] at h; subst h; exact ⟨_, rfl, hxy.1, hxy.2⟩
    | _ => exact hxy.elim
  | enter f args h0 =>
    cases y with
    | enter f' args' h0' =>
      obtain ⟨rfl, rfl, hh⟩ := hxy
      have h : @Option.rec Run (fun _ => E (Value × Hp)) (callW En (evXF En ih xFuel) f args h0) (fun r => r ih args h0) (getF (ofAL l) f) = .ok q := h
      rw [getF_eq] at h
      show ∃ q', callW En _ f args h0' = _ ∧ _
      cases hg : (ofAL l).get f with
      | none =>
        rw [hg] at h
        simp only at h
        rw [evXF_eq] at h
        exact callW_sub ((evX_sub hN xFuel).mono (by omega)) hh h
      | some F =>
        rw [hg] at h
        simp only at h
        obtain ⟨q', k1, k2⟩ := hl.get hg _ N hN _ _ _ _ hh h
        exact ⟨q', callW_mono (evN_mono En (by omega)) k1, k2⟩
    | _ => exact hxy.elim
  | yld l0 args h0 =>
    cases y with
    | yld l' args' h0' =>
      obtain ⟨rfl, rfl, hh⟩ := hxy
      have h : yieldW (evXF En ih xFuel) l0 args h0 = .ok q := h
      rw [evXF_eq] at h
      exact yieldW_sub ((evX_sub hN xFuel).mono (by omega)) hh h
    | _ => exact hxy.elim

theorem orcN_ok {En : Env} {bigN : Nat} {l : List (Nat × Run)} (hl : AllOk En bigN l) (xFuel : Nat) : ∀ n, ∃ N, OrS (orcN En (ofAL l) xFuel n) (runRs En (evN En N))
  | 0 => ⟨0, fun x y q hxy h => by cases h⟩
  | n + 1 => by
    obtain ⟨N, hN⟩ := orcN_ok hl xFuel n
    exact ⟨_, orcS_ok hl xFuel hN⟩

def runTop (En : Env) (tab : Tab) (xFuel n f : Nat) : Bool := isTrue (orcN En tab xFuel n (.enter f [] hp0))
theorem runTop_ok {En : Env} {bigN : Nat} {l : List (Nat × Run)} (hl : AllOk En bigN l) {xFuel n f : Nat} (e : runTop En (ofAL l) xFuel n f = true) : ∃ N, isTrue (evCall0 En N f) = true := by
  unfold runTop at e
  cases hr : orcN En (ofAL l) xFuel n (.enter f [] hp0) with
  | error k => rw [hr] at e; cases e
  | ok r =>
    rw [hr] at e
    obtain ⟨N, hN⟩ := orcN_ok hl xFuel n
    obtain ⟨q', h, k1, _⟩ := hN (.enter f [] hp0) (.enter f [] hp0) _ (⟨rfl, rfl, HSub.refl _⟩ : RsSub (.enter f [] hp0) (.enter f [] hp0)) hr
    have h : callW En (evN En N) f [] hp0 = .ok q' := h
    refine ⟨N, ?_⟩
    unfold evCall0
    rw [h]
    obtain ⟨v, h1⟩ := r
    obtain ⟨v', h1'⟩ := q'
    simp only at k1; subst k1
    cases v <;> exact e
end

/-- Whatever the compiled program takes to true returns true, in whatever world. -/
theorem runTop_calls {P : Program} {En : Env} (hE : EnvOk P En) {bigN : Nat} {l : List (Nat × Run)} (hl : AllOk En bigN l) {xFuel n f : Nat} (e : runTop En (ofAL l) xFuel n f = true) (w : World) : Calls P f #[] w fun e w' => e = .returned (.bool true) ∧ Below w.heap.size w w' := by
  obtain ⟨N, h⟩ := runTop_ok hl e
  exact ev_calls hE h w
end Go.Ev
