/-
  By an AI agent: a part of the proof of this claim; what is proved stands in the text YtjinlihckmgioaaGreatDoorMain.
-/
import Derived.Test.YtjinlihckmgioaaGreatDoorEvK3
set_option linter.unusedVariables false
set_option linter.unusedSimpArgs false
set_option linter.unusedSectionVars false
set_option linter.unusedVariables false
set_option linter.unusedSimpArgs false
set_option linter.unusedSectionVars false
namespace Go.Ev
open Go

theorem chk1_spec {En : Env} {ops : Array Oper} {ib : Nat} {tr : List T3} {sf : St} {p q : Nat} {o : Oper} (h : chk1 En ib ops.toList tr sf p q = true) (ho : ops[p]? = some o) (hw : twAt tr p = true) :
    ∃ h', cop En (ib + p) (stAt tr sf p).tm (stAt tr sf (if p < q then q + 1 else q)).hp o = .ok (.val (tvAt tr p) h') := by
  unfold chk1 at h
  have hol : ops.toList[p]? = some o := by rw [Array.getElem?_toList]; exact ho
  rw [hol] at h
  unfold twAt at hw
  cases ht : tr[p]? with
  | none => rw [ht] at hw; cases hw
  | some t =>
    rw [ht] at h hw
    simp only at h hw
    rw [hw] at h
    simp only [hpAt_eq] at h
    have e1 : (stAt tr sf p).tm = t.s.tm := by unfold stAt; rw [ht]
    have e2 : tvAt tr p = t.v := by unfold tvAt; rw [ht]
    rw [e1, e2]
    by_cases hlt : p < q
    · rw [if_pos hlt]
      rw [show Nat.blt p q = true from Nat.ble_eq_true_of_le hlt] at h
      simp only at h
      split at h
      · rename_i v h' hc
        exact ⟨h', by rw [hc, veqB_eq h]⟩
      · cases h
    · rw [if_neg hlt]
      rw [show Nat.blt p q = false by cases hh : Nat.blt p q with | true => exact absurd (blt_true hh) hlt | false => rfl] at h
      simp only at h
      split at h
      · rename_i v h' hc
        exact ⟨h', by rw [hc, veqB_eq h]⟩
      · cases h

theorem last_effect (ty : Tr TD) (ops : Array Oper) (i : Nat) : ∀ j, (∃ e, i ≤ e ∧ e < j ∧ IsE ty ops e) → ∃ e, i ≤ e ∧ e < j ∧ IsE ty ops e ∧ ∀ e', e < e' → e' < j → ¬ IsE ty ops e' := by
  intro j
  induction j with
  | zero => rintro ⟨e, _, h, _⟩; omega
  | succ j ih =>
    rintro ⟨e, h1, h2, h3⟩
    by_cases hj : i ≤ j ∧ IsE ty ops j
    · exact ⟨j, hj.1, by omega, hj.2, fun e' a b => by omega⟩
    · have hne : e ≠ j := by rintro rfl; exact hj ⟨h1, h3⟩
      obtain ⟨f, g1, g2, g3, g4⟩ := ih ⟨e, h1, by omega, h3⟩
      refine ⟨f, g1, by omega, g3, fun e' a b => ?_⟩
      by_cases e2 : e' = j
      · rw [e2]; intro hh; exact hj ⟨by omega, hh⟩
      · exact g4 e' a (by omega)

section
variable {P : Program} {En : Env} (hE : EnvOk P En) {ev : Evl} (hev : SoundE P En ev) {ops : Array Oper} {M : List Nat} (hM : RegOk En.ty ops M) {ib : Nat} {tr : List T3} {s0 sf : St} (hS : Seen En ev ops ib tr s0 sf) {base : Nat} {μ0 : Mu} {w0 : World} {a0 : Act} (hr0 : HW μ0 base s0.hp w0)
  (hf0 : ∀ x, x < ops.size → μ0.m (ib + x) = none) (hty0 : μ0.ty = En.ty) (hb0 : base ≤ w0.heap.size)
  (hchk : ∀ p q o o', ops[p]? = some o → ops[q]? = some o' → clOf En.ty o.op = 1 → clOf En.ty o'.op = 3 → ordB M p q = false → ordB M q p = false → chk1 En ib ops.toList tr sf p q = true)
include hE hev hM hS hr0 hf0 hty0 hb0 hchk

theorem DI.walk {listed : Array Bool} {a : Act} {w : World} {μ : Mu} {j : Nat} (hD : DI En ops M ib tr s0 sf base μ0 w0 a0 listed a w μ j) {i : Nat} {o : Oper} (ho : ops[i]? = some o) (hul : listed.getD i false = false) (hpre : ∀ x, ordB M x i = true → listed.getD x false = true)
    {r : Option Nat} {Q : Exit → Act → World → Prop} {K : Act → World → Prop} (hK : ∀ a' w' μ' j', DI En ops M ib tr s0 sf base μ0 w0 a0 (listed.setIfInBounds i true) a' w' μ' j' → K a' w') : wpOpIn (Fw r) 0 P ops Q i K a w := by
  have hi : i < ops.size := (Array.getElem?_eq_some_iff.1 ho).1
  obtain ⟨hwc, _, _, _, _, hrun⟩ := opW_inv (hS.step i o ho)
  have hlook := fun {t : Tmp} => @DI.look En ev ops M hM ib tr s0 sf hS base μ0 w0 a0 hr0 hf0 listed a w μ j hD i o ho hul hpre t
  have hwant := wanted_rel (μ := μ) (tmps := a.tmps) (fun t hg => hlook (by
    obtain ⟨g, b, h1, h2⟩ := hg
    unfold Oper.looksAt
    rw [h1]
    simp only [List.mem_append]
    right
    rw [h2]; simp)) hwc
  have hρ : ∀ x ∈ o.op.operands, VR μ (evo (stAt tr sf i).tm x) (a.eval x) := by
    intro x hx
    cases x with
    | tmp t => exact hlook (List.mem_append_left _ (List.mem_filterMap.2 ⟨.tmp t, by simpa using hx, rfl⟩))
    | const v =>
      simp only [evo, Act.eval]
      split
      · exact plainV_rel μ (by assumption)
      · exact .psn _
    | global g => exact .psn _
    | func f => exact .func f .nil .nil
  have hty : μ.ty = En.ty := hD.mv.le.ty.trans hty0
  have hb : base ≤ w.heap.size := Nat.le_trans hb0 hD.mv.size
  have hcnt := hD.mv.cnt
  have hc0 := hS.cn
  have hid : ib + i < (stAt tr sf j).hp.cnt := by omega
  have hm : μ.m (ib + i) = none := hD.un i hi hul
  have hEj : IsE En.ty ops i → i = j := by
    intro hEi
    rcases Nat.lt_trichotomy i j with h | h | h
    · rw [hD.lo i h hEi] at hul; cases hul
    · exact h
    · have hj := hD.je (by omega)
      obtain ⟨oj, hoj, hcj⟩ := hj
      obtain ⟨oi, hoi, hci⟩ := hEi
      have hp := hM.pair h hoj hoi
      have hord : ordB M j i = true := by
        unfold pairOk at hp
        rw [hcj, hci] at hp
        simp only [Bool.and_eq_true] at hp
        exact hp.2
      have h1 := hpre _ hord
      rw [hD.hi j (Nat.le_refl _) ⟨oj, hoj, hcj⟩] at h1; cases h1
  unfold wpOpIn
  simp only [ho, hwant]
  rcases hrun with ⟨hw, hv, hh⟩ | ⟨hw, rs, h1, hc, hr, hh⟩
  · rw [hw]
    simp only [Bool.false_eq_true, if_false]
    refine ⟨fun _ _ => trivial, ?_⟩
    have hvr : VR μ (tvAt tr i) undef := by rw [hv]; exact undef_rel μ
    by_cases hEi : IsE En.ty ops i
    · have hij := hEj hEi
      have hh' : (stAt tr sf (j + 1)).hp = (stAt tr sf j).hp := by rw [← hij]; exact hh
      obtain ⟨j', hD'⟩ := DI.effectStep hM hS hr0 hf0 hD ho hul hpre hij hEi hvr (w' := w) (by rw [hh']; exact hD.hw) (by rw [hh']; exact .refl _ _ _ _)
      exact hK _ _ _ _ hD'
    · exact hK _ _ _ _ (DI.quietStep hM hS hr0 hf0 hD ho hul hpre hEi hvr hD.hw (.refl _ _ _ _) fun ob _ _ htw => by rw [hw] at htw; cases htw)
  · rw [hw]
    simp only [if_true]
    rcases cl_lt En.ty o.op with hcl | hcl | hcl | hcl
    · obtain ⟨v, rfl, hall⟩ := cl0 hcl _ _ _ hc
      simp only [runRs, Except.ok.injEq, Prod.mk.injEq] at hr
      have hEi : ¬ IsE En.ty ops i := by rintro ⟨o', h2, h3⟩; rw [ho] at h2; cases h2; rw [hcl] at h3; cases h3
      refine op_sound hE hev (hall (ib + i) (stAt tr sf j).hp) rfl hD.hw hty hb hid hm hρ fun μ' v' w' g1 g2 g3 => ?_
      rw [hr.1] at g3
      refine hK _ _ _ _ (DI.quietStep hM hS hr0 hf0 hD ho hul hpre hEi g3 g1 g2 fun ob _ h2 => ?_)
      obtain ⟨o', h4, h5⟩ := h2
      rw [ho] at h4; cases h4; rw [hcl] at h5; cases h5
    · have hEi : ¬ IsE En.ty ops i := by rintro ⟨o', h2, h3⟩; rw [ho] at h2; cases h2; rw [hcl] at h3; cases h3
      have hread : cop En (ib + i) (stAt tr sf i).tm (stAt tr sf j).hp o = .ok (.val (tvAt tr i) (stAt tr sf j).hp) := by
        obtain ⟨v, rfl, hall⟩ := cl1 hcl _ _ _ hc
        simp only [runRs, Except.ok.injEq, Prod.mk.injEq] at hr
        rcases Nat.lt_trichotomy i j with h | h | h
        · by_cases hq : ∃ e, i ≤ e ∧ e < j ∧ IsE En.ty ops e
          · obtain ⟨e, g1, g2, g3, g4⟩ := last_effect En.ty ops i j hq
            have hne : i ≠ e := by rintro rfl; exact hEi g3
            obtain ⟨oe, hoe, hce⟩ := g3
            have hLe := hD.lo e g2 ⟨oe, hoe, hce⟩
            have n1 : ordB M i e = false := by
              cases hh : ordB M i e with
              | false => rfl
              | true => rw [hD.dc e i hLe hh] at hul; cases hul
            have n2 : ordB M e i = false := by
              cases hh : ordB M e i with
              | false => rfl
              | true => have := hM.lt i ho hh; omega
            obtain ⟨h', hc2⟩ := chk1_spec (hchk i e o oe ho hoe hcl hce n1 n2) ho hw
            rw [if_pos (by omega)] at hc2
            obtain ⟨v2, e2, hall2⟩ := cl1 hcl _ _ _ hc2
            injection e2 with e2 e3
            subst e3
            have := hall2 (ib + i) (stAt tr sf j).hp (hS.quiet (fun x hx hn => hD.fr (e + 1) (by omega) x hx hn) j (by omega) hD.jn fun k a b => g4 k (by omega) b).2.2.2.1
            rw [e2]; exact this
          · have := hall (ib + i) (stAt tr sf j).hp (hS.quiet (fun x hx hn => hD.fr i (by omega) x hx hn) j (by omega) hD.jn fun k a b hk => hq ⟨k, a, b, hk⟩).2.2.2.1
            rw [← hr.1]; exact this
        · subst h; exact absurd (hD.je hi) hEi
        · obtain ⟨oe, hoe, hce⟩ := hD.je (by omega)
          have n1 : ordB M i j = false := by
            cases hh : ordB M i j with
            | false => rfl
            | true => have := hM.lt j hoe hh; omega
          have n2 : ordB M j i = false := by
            cases hh : ordB M j i with
            | false => rfl
            | true => have := hpre _ hh; rw [hD.hi j (Nat.le_refl _) ⟨oe, hoe, hce⟩] at this; cases this
          obtain ⟨h', hc2⟩ := chk1_spec (hchk i j o oe ho hoe hcl hce n1 n2) ho hw
          rw [if_neg (by omega)] at hc2
          obtain ⟨v2, e2, _⟩ := cl1 hcl _ _ _ hc2
          injection e2 with e2 e3
          subst e3
          exact hc2
      refine op_sound hE hev hread rfl hD.hw hty hb hid hm hρ fun μ' v' w' g1 g2 g3 => ?_
      refine hK _ _ _ _ (DI.quietStep hM hS hr0 hf0 hD ho hul hpre hEi g3 g1 g2 fun ob _ h2 => ?_)
      obtain ⟨o', h4, h5⟩ := h2
      rw [ho] at h4; cases h4; rw [hcl] at h5; cases h5
    · obtain ⟨v, ob, rfl, hfam, hall⟩ := cl2 hcl _ _ _ hc
      simp only [runRs, Except.ok.injEq, Prod.mk.injEq] at hr
      have hEi : ¬ IsE En.ty ops i := by rintro ⟨o', h2, h3⟩; rw [ho] at h2; cases h2; rw [hcl] at h3; cases h3
      have hnew : (stAt tr sf (i + 1)).hp = newAt (stAt tr sf i).hp (ib + i) ob := hh.trans hr.2.symm
      have hget1 : (stAt tr sf (i + 1)).hp.obs.get (ib + i) = some ob := by rw [hnew, hS.newAt_get hi, if_pos rfl]
      refine op_sound hE hev (hall (stAt tr sf j).hp) rfl hD.hw hty hb hid hm hρ fun μ' v' w' g1 g2 g3 => ?_
      rw [hr.1] at g3
      have hgN := fun x => hS.newAt_get (h := (stAt tr sf j).hp) hi ob x
      rcases Nat.lt_trichotomy i j with h | h | h
      · -- the block is there already
        have hq : ∀ e, i ≤ e → e < j → ¬ IsE En.ty ops e := by
          intro e a b he
          have hne : i ≠ e := by rintro rfl; exact hEi he
          obtain ⟨oe, hoe, hce⟩ := he
          have hLe := hD.lo e b ⟨oe, hoe, hce⟩
          have hp := hM.pair (show i < e by omega) ho hoe
          have hord : ordB M i e = true := by
            unfold pairOk at hp
            rw [hcl, hce] at hp
            simp only [Bool.and_eq_true] at hp
            exact hp.2
          rw [hD.dc e i hLe hord] at hul; cases hul
        have hgj : (stAt tr sf j).hp.obs.get (ib + i) = some ob := (hS.quiet (fun x hx hn => hD.fr i (by omega) x hx hn) j (by omega) hD.jn hq).2.2.2.2.2 i ob (Nat.le_refl _) h hget1
        have hsame : ∀ x, (newAt (stAt tr sf j).hp (ib + i) ob).obs.get x = (stAt tr sf j).hp.obs.get x := by
          intro x; rw [hgN]; split
          · rename_i e; rw [e, hgj]
          · rfl
        have g1' : HW μ' base (stAt tr sf j).hp w' := g1.ext rfl rfl fun b ob' hb => .inl (by rw [hsame]; exact hb)
        have g2' : Mv (· = ib + i) μ (stAt tr sf j).hp w μ' (stAt tr sf j).hp w' := g2.ext rfl fun x _ _ hx => by rw [← hsame]; exact hx
        exact hK _ _ _ _ (DI.quietStep hM hS hr0 hf0 hD ho hul hpre hEi g3 g1' g2' fun ob _ => by omega)
      · subst h; exact absurd (hD.je hi) hEi
      · have hnone := hD.fr j (Nat.le_refl _) i (by omega) hi
        have g1' : HW μ' base (stAt tr sf j).hp w' := g1.ext rfl rfl fun b ob' hb => .inl (by
          rw [hgN, if_neg]
          · exact hb
          · rintro rfl; rw [hnone] at hb; cases hb)
        have g2' : Mv (· = ib + i) μ (stAt tr sf j).hp w μ' (stAt tr sf j).hp w' := g2.ext rfl fun x _ hx hn => by
          rw [hgN, if_neg hx] at hn; exact hn
        refine hK _ _ _ _ (DI.quietStep hM hS hr0 hf0 hD ho hul hpre hEi g3 g1' g2' fun ob' _ _ _ _ hob' B hB => ?_)
        rw [hget1] at hob'
        simp only [Option.some.injEq] at hob'
        subst hob'
        have hgob : (newAt (stAt tr sf j).hp (ib + i) ob).obs.get (ib + i) = some ob := by rw [hgN, if_pos rfl]
        exact ⟨by rw [← g1.grp hgob hB]; exact hfam, g1.ob hgob hB⟩
    · have hEi : IsE En.ty ops i := ⟨o, ho, hcl⟩
      have hij := hEj hEi
      subst hij
      refine op_sound hE hev hc hr hD.hw hty hb hid hm hρ fun μ' v' w' g1 g2 g3 => ?_
      rw [← hh] at g1 g2
      obtain ⟨j', hD'⟩ := DI.effectStep hM hS hr0 hf0 hD ho hul hpre rfl hEi g3 g1 g2
      exact hK _ _ _ _ hD'

theorem count_set (l : List Bool) : ∀ (i : Nat), l[i]? = some false → (l.set i true).count false + 1 = l.count false := by
  induction l with
  | nil => intro i h; simp at h
  | cons b l ih =>
    intro i h
    cases i with
    | zero =>
      simp only [List.getElem?_cons_zero, Option.some.injEq] at h
      subst h
      simp
    | succ i =>
      have := ih i (by simpa using h)
      simp only [List.set_cons_succ, List.count_cons]
      omega

theorem DI.any {r : Option Nat} {Q : Exit → Act → World → Prop} (hQ : ∀ listed a w μ j, DI En ops M ib tr s0 sf base μ0 w0 a0 listed a w μ j → (∀ i, i < ops.size → listed.getD i false = true) → Q .normal a w) :
    ∀ (fuel : Nat) (listed : Array Bool) (a : Act) (w : World) (μ : Mu) (j : Nat), DI En ops M ib tr s0 sf base μ0 w0 a0 listed a w μ j → listed.toList.count false = fuel → wpAnyIn (Fw r) 0 P .any ops Q fuel listed a w := by
  intro fuel
  induction fuel with
  | zero =>
    intro listed a w μ j hD hcount
    have hall : ∀ i, i < ops.size → listed.getD i false = true := by
      intro i hi
      have hlt : i < listed.size := by rw [hD.sz]; exact hi
      rw [Array.getD_eq_getD_getElem?, Array.getElem?_eq_getElem hlt]
      simp only [Option.getD_some]
      cases hb : listed[i] with
      | true => rfl
      | false =>
        have : false ∈ listed.toList := by rw [← hb]; simp
        rw [List.count_eq_zero] at hcount
        exact absurd this hcount
    refine ⟨?_, hQ listed a w μ j hD hall⟩
    rw [List.eq_nil_iff_forall_not_mem]
    intro i hm
    obtain ⟨h1, o, ho, _⟩ := mem_ready.1 hm
    have hi : i < ops.size := (Array.getElem?_eq_some_iff.1 ho).1
    have := hall i hi
    have hlt : i < listed.size := by rw [hD.sz]; exact hi
    rw [Array.getD_eq_getD_getElem?, Array.getElem?_eq_getElem hlt] at this h1
    simp only [Option.getD_some] at this h1
    rw [this] at h1; cases h1
  | succ fuel ih =>
    intro listed a w μ j hD hcount
    have hgd : ∀ i, i < ops.size → listed.getD i true = listed.getD i false := by
      intro i hi
      have hlt : i < listed.size := by rw [hD.sz]; exact hi
      simp [Array.getD_eq_getD_getElem?, hlt]
    refine ⟨fun hnil => ?_, fun i hi => ?_⟩
    · exfalso
      have hex : ∃ i, i < ops.size ∧ listed.getD i false = false := by
        have : 0 < listed.toList.count false := by omega
        rw [List.count_pos_iff] at this
        obtain ⟨i, hi, hb⟩ := List.getElem_of_mem this
        rw [Array.length_toList] at hi
        exact ⟨i, by rw [← hD.sz]; exact hi, by rw [Array.getD_eq_getD_getElem?, Array.getElem?_eq_getElem hi]; simpa using hb⟩
      have hmin : ∃ i, i < ops.size ∧ listed.getD i false = false ∧ ∀ k, k < i → listed.getD k false = true := by
        obtain ⟨i, hi⟩ := hex
        induction i using Nat.strongRecOn with
        | _ i ihi =>
          by_cases h : ∃ k, k < i ∧ listed.getD k false = false
          · obtain ⟨k, hk, hk2⟩ := h
            exact ihi k hk ⟨by omega, hk2⟩
          · refine ⟨i, hi.1, hi.2, fun k hk => ?_⟩
            cases hb : listed.getD k false with
            | true => rfl
            | false => exact absurd ⟨k, hk, hb⟩ h
      obtain ⟨i, hi, hul, hlt⟩ := hmin
      have ho : ops[i]? = some ops[i] := Array.getElem?_eq_getElem hi
      have : i ∈ Region.ready .any ops listed := mem_ready.2 ⟨by rw [hgd i hi]; exact hul, _, ho, fun e he hb => hlt _ (hM.edge ho e he hb)⟩
      rw [hnil] at this; cases this
    · obtain ⟨h1, o, ho, hedge⟩ := mem_ready.1 hi
      have hilt : i < ops.size := (Array.getElem?_eq_some_iff.1 ho).1
      have hul : listed.getD i false = false := by rw [← hgd i hilt]; exact h1
      have hpre : ∀ x, ordB M x i = true → listed.getD x false = true := by
        intro x hx
        obtain ⟨e, he, hb, h⟩ := hM.mask ho hx
        have hl := hedge e he hb
        rcases h with rfl | h
        · exact hl
        · exact hD.dc _ _ hl h
      refine DI.walk hE hev hM hS hr0 hf0 hty0 hb0 hchk hD ho hul hpre fun a' w' μ' j' hD' => ih _ a' w' μ' j' hD' ?_
      have := count_set hE hev hM hS hr0 hf0 hty0 hb0 hchk listed.toList i (by
        have hlt : i < listed.size := by rw [hD.sz]; exact hilt
        rw [Array.getElem?_toList, Array.getElem?_eq_getElem hlt]
        rw [Array.getD_eq_getD_getElem?, Array.getElem?_eq_getElem hlt] at hul
        simpa using hul)
      rw [Array.toList_setIfInBounds]
      omega
end

/-- A region that draws its order. -/
theorem drawn_sound {P : Program} {En : Env} (hE : EnvOk P En) {ev : Evl} (hev : SoundE P En ev) {ops : Array Oper} {rid : Nat} {s s' : St} {e : Ex} (h : evStep En ev (toCd En.ty (.region rid ops true)) s = .ok (e, s')) {μ : Mu} {base : Nat} {a : Act} {w : World} {r : Option Nat} (hr : HW μ base s.hp w) (hty : μ.ty = En.ty)
    (hb : base ≤ w.heap.size) (ht : TmR μ s.tm s.nt a.tmps) {Q : Exit → Act → World → Prop} (hQ : ∀ μ' a' w', Pst base μ s a w s' μ' a' w' → Q (exOf e) a' w') : (Code.region rid ops true).wpIn (Fw r) 0 P Q a w := by
  simp only [toCd] at h
  cases hok : regOk En.ty ops with
  | false => rw [hok] at h; cases h
  | true =>
    rw [hok] at h
    simp only [evStep] at h
    obtain ⟨hc, h1⟩ := chk_ok h
    clear h
    have hc := blt_true hc
    have key : ∃ tr, opsT En ev ops.toList s.hp.cnt ops.toList (bump s ops.size) = .ok (tr, s') ∧ chks En s.hp.cnt ops.toList tr s' (pairsOf En.ty ops) = true ∧ e = .normal := by
      cases hps : pairsOf En.ty ops with
      | nil =>
        rw [hps] at h1
        simp only at h1
        obtain ⟨s1, hs1, h2⟩ := bnd_ok h1
        simp only [Except.ok.injEq, Prod.mk.injEq] at h2
        obtain ⟨rfl, rfl⟩ := h2
        obtain ⟨tr, htr⟩ := opsT_of_opsW _ _ hs1
        exact ⟨tr, htr, rfl, rfl⟩
      | cons p ps =>
        rw [hps] at h1
        simp only at h1
        obtain ⟨⟨tr, s1⟩, hs1, h2⟩ := bnd_ok h1
        obtain ⟨hk, h3⟩ := chk_ok h2
        simp only [Except.ok.injEq, Prod.mk.injEq] at h3
        obtain ⟨rfl, rfl⟩ := h3
        exact ⟨tr, hs1, hk, rfl⟩
    obtain ⟨tr, htr, hk, rfl⟩ := key
    obtain ⟨g1, g2, g3⟩ := opsT_spec _ _ htr
    have hlen : tr.length = ops.size := by rw [g1, Array.length_toList]
    have hS : Seen En ev ops s.hp.cnt tr (bump s ops.size) s' := by
      refine ⟨g2, fun i o ho => ?_, ?_, hc, rfl, ht.2.1, fun x hx => (hr.fr (by omega)).1⟩
      · obtain ⟨t, k1, k2, k3⟩ := g3 i o (by rw [Array.getElem?_toList]; exact ho)
        unfold twAt tvAt
        rw [k1, ← k2]
        exact k3
      · unfold stAt
        rw [List.getElem?_eq_none (by omega)]
    have hM := regOk_spec hok
    have hchk : ∀ p q o o', ops[p]? = some o → ops[q]? = some o' → clOf En.ty o.op = 1 → clOf En.ty o'.op = 3 → ordB (masks ops.toList []) p q = false → ordB (masks ops.toList []) q p = false → chk1 En s.hp.cnt ops.toList tr s' p q = true := by
      intro p q o o' ho ho' hc1 hc3 n1 n2
      have hmem : (p, q) ∈ pairsOf En.ty ops := by
        unfold pairsOf
        rw [List.mem_flatMap]
        refine ⟨q, List.mem_range.2 (Array.getElem?_eq_some_iff.1 ho').1, List.mem_filterMap.2 ⟨p, List.mem_range.2 (Array.getElem?_eq_some_iff.1 ho).1, ?_⟩⟩
        rw [ho, ho']
        simp only [hc1, hc3, n1, n2, Bool.or_false]
      have : ∀ ps : List (Nat × Nat), chks En s.hp.cnt ops.toList tr s' ps = true → (p, q) ∈ ps → chk1 En s.hp.cnt ops.toList tr s' p q = true := by
        intro ps
        induction ps with
        | nil => intro _ h; cases h
        | cons x ps ih =>
          obtain ⟨x1, x2⟩ := x
          intro h hm
          simp only [chks] at h
          cases hx : chk1 En s.hp.cnt ops.toList tr s' x1 x2 with
          | false => rw [hx] at h; cases h
          | true =>
            rw [hx] at h
            rcases List.mem_cons.1 hm with e | hm
            · cases e; exact hx
            · exact ih h hm
      exact this _ hk hmem
    refine wpIn_region_any hE.mixed ?_
    obtain ⟨w0, hw0⟩ : ∃ w0 : World, w0 = { w with drawn := w.drawn + 1 } := ⟨_, rfl⟩
    rw [← hw0]
    have hr0 : HW μ base (bump s ops.size).hp w0 := (hr.bump (h' := (bump s ops.size).hp) rfl rfl (by simp [bump]) (by simp only [bump]; omega)).heap (by rw [hw0])
    have hb0 : base ≤ w0.heap.size := by rw [hw0]; exact hb
    have hmv0 : Mv (fun _ => False) μ s.hp w μ s.hp w0 := by
      rw [hw0]
      exact ⟨.refl μ, Nat.le_refl _, fun x _ _ hx => hx, fun x B h1 h2 => (by rw [h1] at h2; cases h2), Nat.le_refl _, fun _ _ _ => rfl, rfl, rfl, rfl⟩
    have hf0 : ∀ x, x < ops.size → μ.m (s.hp.cnt + x) = none := fun x _ => (hr.fr (by omega)).2
    obtain ⟨j, q1, q2, q3, q4⟩ := next_effect En.ty ops 0 (Nat.zero_le _)
    have hq := hS.quiet (k := 0) (fun x _ hn => by rw [hS.zero]; exact hS.fre x hn)
    obtain ⟨r1, r2, r3, r4, r5, r6⟩ := hq j q1 q2 q3
    rw [hS.zero] at r1 r2 r4 r5
    have hfalse : ∀ k, (Array.replicate ops.size false).getD k false = false := fun k => by
      rw [Array.getD_eq_getD_getElem?, Array.getElem?_replicate]; split <;> rfl
    have hD : DI En ops (masks ops.toList []) s.hp.cnt tr (bump s ops.size) s' base μ w0 a (Array.replicate ops.size false) a w0 μ j := by
      refine ⟨by simp, fun k x hk _ => (by rw [hfalse] at hk; cases hk), q2, fun i hi he => absurd he (q3 i (by omega) hi), fun i _ _ => hfalse i, q4, ?_, ?_, fun i hi _ => hf0 i hi, fun k hk x hx hn => ?_, fun i ob _ hi _ _ _ _ B hB => ?_, ht.1, fun t => .inr ⟨fun i o hi => (by rw [hfalse] at hi; cases hi), ht.2.2 t⟩, rfl⟩
      · refine hr0.ext r1 r2 fun b ob hb => (r5 b ob hb).imp id ?_
        rintro ⟨x, _, k2, rfl, _, _, k5, _⟩
        exact ⟨k5, by simp only [bump]; omega, fun B hB => by rw [hf0 x (by omega)] at hB; cases hB⟩
      · refine (Mv.refl _ μ _ w0).ext r1 fun x hx hI hn => ?_
        cases hg : (stAt tr s' j).hp.obs.get x with
        | none => rfl
        | some ob =>
          rcases r5 x ob hg with h | ⟨y, _, k2, rfl, _⟩
          · rw [hn] at h; cases h
          · exact absurd ⟨by omega, by omega⟩ hI
      · exact (hq k (Nat.zero_le _) (by omega) fun i a b => q3 i a (by omega)).2.2.1 x hx hn
      · rw [hf0 i hi] at hB; cases hB
    refine DI.any hE hev hM hS hr0 hf0 hty hb0 hchk ?_ ops.size _ a w0 μ j hD (by simp)
    intro listed a1 w1 μ1 j1 hD1 hall
    have hj : j1 = ops.size := by
      rcases Nat.lt_or_ge j1 ops.size with h | h
      · have := hD1.hi j1 (Nat.le_refl _) (hD1.je h)
        rw [hall j1 h] at this; cases this
      · have := hD1.jn; omega
    have hlast := hS.last
    have hhw := hD1.hw
    have hmv := hD1.mv
    rw [hj, hlast] at hhw hmv
    have htm := hS.tm ops.size (Nat.le_refl _)
    rw [hlast] at htm
    refine hQ μ1 a1 w1 ⟨hhw, hmv0.then hr (Mv.closed hE hev hmv rfl (by simp [bump]) fun x hx => hx.1), ⟨?_, ?_, fun t => ?_⟩, htm.1.trans rfl, htm.2.1.trans rfl, [], by simpa using hD1.df, .nil, by simp⟩
    · rw [hD1.sm, htm.1]
    · rw [htm.1]; exact ht.2.1
    · rcases htm.2.2 t with ⟨i', o', h1, h2, h3, h4⟩ | ⟨h1, h2⟩
      · rcases hD1.tm t with ⟨i2, o2, k1, k2, k3, k4⟩ | ⟨k1, _⟩
        · have : i' = i2 := by
            have key : ∀ {i1 i2 : Nat} {o1 o2 : Oper}, ops[i1]? = some o1 → ops[i2]? = some o2 → o1.dst = some t → o2.dst = some t → ¬ i1 < i2 := by
              intro i1 i2 o1 o2 h1 h2 d1 d2 hlt
              have := hM.pair hlt h1 h2
              unfold pairOk at this
              rw [d1, d2] at this
              simp at this
            have a := key h2 k2 h3 k3
            have b := key k2 h2 k3 h3
            omega
          subst this
          rw [h4]; exact k4
        · exact absurd h3 (k1 i' o' (hall i' h1) h2)
      · rw [h2]
        rcases hD1.tm t with ⟨i2, o2, k1, k2, k3, k4⟩ | ⟨_, k2⟩
        · exact absurd k3 (h1 i2 o2 (Array.getElem?_eq_some_iff.1 k2).1 k2)
        · exact k2
end Go.Ev
