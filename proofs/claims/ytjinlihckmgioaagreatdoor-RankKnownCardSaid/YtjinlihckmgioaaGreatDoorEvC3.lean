/-
  By an AI agent: a part of the proof of this claim; what is proved stands in the text YtjinlihckmgioaaGreatDoorMain.
-/
import Derived.Test.YtjinlihckmgioaaGreatDoorEvC2
set_option linter.unusedVariables false
set_option linter.unusedSimpArgs false
set_option linter.unusedSectionVars false
set_option linter.unusedVariables false
set_option linter.unusedSimpArgs false
set_option linter.unusedSectionVars false
namespace Go.Ev
open Go

theorem getLp_ok {h : Hp} {l : Nat} {r : Lp} (e : getLp h l = .ok r) : h.obs.get l = some (.loop r) := by
  unfold getLp at e
  split at e
  · rename_i hk; simp only [Except.ok.injEq] at e; rw [hk, e]
  · cases e

/-- The record of a loop in memory. -/
theorem HW.loop {μ : Mu} {base : Nat} {h : Hp} {w : World} (hr : HW μ base h w) {l L : Nat} {r : Lp} (e : getLp h l = .ok r) (hl : μ.m l = some L) : ∃ r', w.heap[L]? = some (.loop r') ∧ LoopR μ r r' := by
  obtain ⟨o, ho, hR⟩ := hr.ob (getLp_ok e) hl
  cases o with
  | loop r' => exact ⟨r', ho, hR⟩
  | _ => simp [ObR] at hR

theorem put_loop {μ : Mu} {base : Nat} {h : Hp} {w : World} (hr : HW μ base h w) {l L : Nat} {r r2 : Lp} {r' : Loop} (e : getLp h l = .ok r) (hl : μ.m l = some L) (hR : LoopR μ r2 r') :
    HW μ base (putLp h l r2) (w.putObj L (.loop r')) ∧ Mv (fun _ => False) μ h w μ (putLp h l r2) (w.putObj L (.loop r')) := by
  have hg := getLp_ok e
  have hln := hr.old hg
  have h40 := hr.num40 hln
  have hput : ∀ x, (putLp h l r2).obs.get x = if x = l then some (.loop r2) else h.obs.get x := fun x => Tr.get_put _ _ _ _ h40
  have hg0 : μ.g l = 0 := by have := hr.grp hg hl; simp only [famOf] at this; omega
  refine ⟨⟨HR.upd hr.toHR hl hg (ob := .loop r2) (o := .loop r') rfl (fun x ob' hx => ?_) (fun x ob' hne hx hX => ?_) hR rfl rfl (fun {x k f} hx hf => ?_), hr.fo⟩, .refl μ, Nat.le_refl _, fun x _ _ hx => ?_, fun x B h1 h2 => (by rw [h1] at h2; cases h2), by simp, fun B hB hn => ?_, rfl, rfl, rfl⟩
  · rw [hput] at hx
    split at hx
    · simp only [Option.some.injEq] at hx; exact .inl ⟨by assumption, hx.symm⟩
    · exact .inr ⟨by assumption, hx⟩
  · rcases hr.inj hX hl with h | ⟨h1, h2⟩
    · exact absurd h hne
    · rw [hg0] at h1; exact absurd h1 h2
  · rw [hput] at hx
    split at hx
    · cases hx
    · exact hr.fam hx hf
  · rw [hput]
    split
    · rename_i e; rw [e, hg] at hx; cases hx
    · exact hx
  · rw [putObj_heap, if_neg]
    rintro ⟨rfl, _⟩
    exact hn l _ hl hg

section
variable {P : Program} {En : Env} (hE : EnvOk P En) {ev : Evl} (hev : SoundE P En ev)
include hE hev

theorem yield_sound {l L : Nat} {args args' : List Value} {h h' : Hp} {v : Value} (e : yieldW ev l args h = .ok (v, h')) {μ : Mu} {base : Nat} {w : World} (hr : HW μ base h w) (hty : μ.ty = En.ty) (hb : base ≤ w.heap.size) (hl : μ.m l = some L) (ha : VRL μ args args') {r : Option Nat}
    {R : Ending → World → Prop} (hR : ∀ μ' v' w', HW μ' base h' w' → Mv (fun _ => False) μ h w μ' h' w' → VR μ' v v' → R (.returned v') w') :
    ∃ f tmps assign body, (Instr.yield L args'.toArray).run P w = .ok (.round L f tmps assign body) w ∧ RoundIn (Fw r) 0 P L f tmps assign body w R := by
  unfold yieldW at e
  obtain ⟨rc, hrc, e1⟩ := bnd_ok e
  clear e
  obtain ⟨tm, htm, e2⟩ := bnd_ok e1
  clear e1
  obtain ⟨⟨x, s⟩, hx, e3⟩ := bnd_ok e2
  clear e2
  obtain ⟨lp, hlp, ht, hps, has, hbo, hst, hpe⟩ := hr.loop hrc hl
  obtain ⟨hlen, htm'⟩ := putPs_rel ht ha htm
  have hsz : args'.toArray.size = lp.params.size := by
    have := ha.length
    simp only [List.size_toArray, ← Array.length_toList, hps]; omega
  refine ⟨lp.fn, _, lp.assign, lp.body, run_yield hlp hsz, roundIn_of_wpIn trivial ?_⟩
  have htm2 : (lp.params.zip args'.toArray).foldl (fun tmps (t, a) => tmps.setIfInBounds t a) lp.tmps = (rc.params.zip args').foldl (fun tmps (t, a) => tmps.setIfInBounds t a) lp.tmps := by
    rw [← hps, ← Array.foldl_toList, Array.toList_zip]
  rw [htm2]
  rw [has, hty] at hx
  refine hev lp.assign _ s x hx μ base _ w (some L) hr hty hb htm' hl _ ?_
  intro μ1 a1 w1 hp
  simp only at hp
  cases x with
  | exit i => cases e3
  | ret => cases e3
  | normal =>
    simp only [exOf, Exit.then] at e3 ⊢
    obtain ⟨r1, hr1, e4⟩ := bnd_ok e3
    clear e3
    obtain ⟨hrd, e5⟩ := chk_ok e4
    clear e4
    obtain ⟨⟨x2, s2⟩, hx2, e6⟩ := bnd_ok e5
    clear e5
    have hl1 := hp.mv.le.m hl
    obtain ⟨lp1, hlp1, hR1⟩ := hp.hw.loop hr1 hl1
    have hready : lp1.state = .ready := by
      rw [hR1.2.2.2.2.1]
      cases hss : r1.state <;> simp_all [isReady]
    refine ⟨_, run_beginRound hlp1 hready, ?_⟩
    obtain ⟨g1, g2⟩ := put_loop (r2 := { r1 with state := .busy }) (r' := { lp1 with state := .busy }) hp.hw hr1 hl1 ⟨hR1.1, hR1.2.1, hR1.2.2.1, hR1.2.2.2.1, rfl, hR1.2.2.2.2.2⟩
    have hty1 : μ1.ty = En.ty := hp.mv.le.ty.trans hty
    rw [hbo, hty] at hx2
    refine hev lp.body _ s2 x2 hx2 μ1 base a1 _ (some L) g1 hty1 (by simp; exact Nat.le_trans hb hp.mv.size) (by exact hp.tm) (by rw [hp.ro]; exact hl1) _ ?_
    intro μ2 a2 w2 hp2
    have hl2 := hp2.mv.le.m hl1
    have hm2 := hp.mv.then hr (g2.then hp.hw hp2.mv)
    have fin : ∀ (st : LoopState) (jm : Option Jm) (b : Bool), endRd s2.hp l st jm b = .ok (v, h') → b = jm.isNone → st = (if jm.isNone then .ready else .done) →
        ∃ v' w', (Instr.endRound L (jm.map Jm.code)).run P w2 = .ok v' w' ∧ R (.returned v') w' := by
      intro st jm b e hb1 hst1
      unfold endRd at e
      obtain ⟨r2, hr2, e1⟩ := bnd_ok e
      simp only [Except.ok.injEq, Prod.mk.injEq] at e1
      obtain ⟨rfl, rfl⟩ := e1
      obtain ⟨lp2, hlp2, hR2⟩ := hp2.hw.loop hr2 hl2
      refine ⟨_, _, run_endRound (jm.map Jm.code) hlp2, ?_⟩
      have hjn : (jm.map Jm.code).isNone = jm.isNone := by cases jm <;> rfl
      obtain ⟨k1, k2⟩ := put_loop (r2 := { r2 with state := st, pending := jm }) (r' := { lp2 with state := if (jm.map Jm.code).isNone then .ready else .done, pending := jm.map Jm.code }) hp2.hw hr2 hl2
        ⟨hR2.1, hR2.2.1, hR2.2.2.1, hR2.2.2.2.1, by simp only [hst1, hjn], rfl⟩
      refine hR μ2 _ _ k1 (hm2.then hr k2) ?_
      rw [hb1, hjn]
      exact .bool _
    cases x2 with
    | normal => exact fin .ready none true e6 rfl rfl
    | ret => exact fin .done (some .ret) false e6 rfl rfl
    | exit i => exact fin .done (some (.exit i)) false e6 rfl rfl

/-- One operation, walked. -/
theorem op_sound {id : Nat} {o : Oper} {tm : Tr Value} {h h' : Hp} {rs : Rs} {v : Value} (e : cop En id tm h o = .ok rs) (e2 : runRs En ev rs = .ok (v, h')) {μ : Mu} {base : Nat} {a : Act} {w : World} {r : Option Nat} (hr : HW μ base h w) (hty : μ.ty = En.ty)
    (hb : base ≤ w.heap.size) (hid : id < h.cnt) (hm : μ.m id = none) (hρ : ∀ x ∈ o.op.operands, VR μ (evo tm x) (a.eval x)) {next : Act → World → Prop} {Q : Exit → Act → World → Prop}
    (hN : ∀ μ' v' w', HW μ' base h' w' → Mv (· = id) μ h w μ' h' w' → VR μ' v v' → next (a.put o.dst v') w') : o.wpIn (Fw r) 0 P a w next Q := by
  have hsim := cop_sound hE hr hb hid hm hρ e
  refine ⟨fun _ _ => trivial, ?_⟩
  have hnd : ∀ c, o.op ≠ .defer c := by
    intro c hc
    unfold cop at e
    rw [hc] at e
    cases e
  rw [Oper.semAt_eq _ _ _ hnd]
  cases rs with
  | val v0 h0 =>
    simp only [runRs, Except.ok.injEq, Prod.mk.injEq] at e2
    obtain ⟨rfl, rfl⟩ := e2
    obtain ⟨μ', w', nx, e3, e4, e5, e6⟩ := hsim
    rw [e3]
    rcases e4 with ⟨v', rfl, hv⟩ | ⟨rfl, rfl⟩
    · exact hN μ' v' w' e5 e6 hv
    · exact hN μ' undef w' e5 e6 (undef_rel _)
  | enter f args h0 =>
    obtain ⟨rfl, args', e3, e4⟩ := hsim
    rw [e3]
    refine ⟨fun h => by simp at h, ?_⟩
    exact call_sound hE hev e2 hr hty hb e4 fun μ' v' w' g1 g2 g3 => hN μ' v' w' g1 (g2.mono fun _ h => h.elim) g3
  | yld l args h0 =>
    obtain ⟨rfl, L, args', hl, e3, e4⟩ := hsim
    obtain ⟨f, tmps, assign, body, q1, q2⟩ := yield_sound hE hev e2 hr hty hb hl e4 (r := r) (R := fun
      | .returned v, w'' => next (a.put o.dst v) w''
      | .panicked chain, w'' => Q (.panic chain) a w''
      | .outgrown, _ => LetsOut Q) fun μ' v' w' g1 g2 g3 => hN μ' v' w' g1 (g2.mono fun _ h => h.elim) g3
    rw [e3, q1]
    exact ⟨fun h => by simp at h, q2⟩
end
end Go.Ev
