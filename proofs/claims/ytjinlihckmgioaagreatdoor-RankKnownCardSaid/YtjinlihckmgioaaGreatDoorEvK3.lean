/-
  By an AI agent: a part of the proof of this claim; what is proved stands in the text YtjinlihckmgioaaGreatDoorMain.
-/
import Derived.Test.YtjinlihckmgioaaGreatDoorEvK2
set_option linter.unusedVariables false
set_option linter.unusedSimpArgs false
set_option linter.unusedSectionVars false
set_option linter.unusedVariables false
set_option linter.unusedSimpArgs false
set_option linter.unusedSectionVars false
namespace Go.Ev
open Go

theorem HW.ext {μ : Mu} {base : Nat} {h h' : Hp} {w : World} (hr : HW μ base h w) (hc : h'.cnt = h.cnt) (hf : h'.fams = h.fams)
    (ho : ∀ b ob, h'.obs.get b = some ob → h.obs.get b = some ob ∨ (famOf ob = 0 ∧ b < h.cnt ∧ ∀ B, μ.m b = some B → μ.g b = 0 ∧ ∃ o, w.heap[B]? = some o ∧ ObR μ B ob o)) : HW μ base h' w := by
  refine ⟨⟨fun {b ob B} hb hB => ?_, fun {b ob B} hb hB => ?_, hr.inj, fun {b k f} hb hk => ?_, by rw [hc]; exact hr.cnt, fun {b ob} hb => ?_, fun {b B} hB => by rw [hc]; exact hr.oldm hB⟩, fun f st hs => by rw [hf] at hs; rw [hc]; exact hr.fo f st hs⟩
  · rcases ho b ob hb with h | ⟨_, _, h⟩
    · exact hr.ob h hB
    · exact (h B hB).2
  · rcases ho b ob hb with h | ⟨h1, _, h⟩
    · exact hr.grp h hB
    · rw [h1, (h B hB).1]
  · rcases ho b _ hb with h | ⟨h1, _, h⟩
    · rw [hf, hc]; exact hr.fam h hk
    · simp only [famOf] at h1; omega
  · rcases ho b ob hb with h | ⟨_, h1, _⟩
    · rw [hc]; exact hr.old h
    · rw [hc]; exact h1

theorem Mv.ext {I : Nat → Prop} {μ μ' : Mu} {h h1 h2 : Hp} {w w' : World} (m : Mv I μ h w μ' h1 w') (hc : h2.cnt = h1.cnt) (ho : ∀ x, x < h.cnt → ¬ I x → h1.obs.get x = none → h2.obs.get x = none) : Mv I μ h w μ' h2 w' :=
  ⟨m.le, by rw [hc]; exact m.cnt, fun x hx hi hg => ho x hx hi (m.dead x hx hi hg), m.new, m.size, m.frame, m.os, m.output, m.tape⟩

theorem opW_inv {En : Env} {ev : Evl} {ops : List Oper} {id : Nat} {o : Oper} {s s' : St} {wd : Bool} {v : Value} (e : opW En ev ops id o s = .ok (wd, v, s')) :
    wantedC ops s.tm o = .ok wd ∧ s'.nt = s.nt ∧ s'.ro = s.ro ∧ (∀ d, o.dst = some d → d < s.nt ∧ s'.tm = s.tm.put d v) ∧ (o.dst = none → s'.tm = s.tm) ∧
      ((wd = false ∧ v = undef ∧ s'.hp = s.hp) ∨ (wd = true ∧ ∃ rs h', cop En id s.tm s.hp o = .ok rs ∧ runRs En ev rs = .ok (v, h') ∧ s'.hp = h')) := by
  have hput : ∀ {v h}, putD s o.dst v h = .ok s' → s'.hp = h ∧ s'.nt = s.nt ∧ s'.ro = s.ro ∧ (∀ d, o.dst = some d → d < s.nt ∧ s'.tm = s.tm.put d v) ∧ (o.dst = none → s'.tm = s.tm) := by
    intro v h e
    unfold putD at e
    cases hd : o.dst with
    | none => rw [hd] at e; simp only [Except.ok.injEq] at e; subst e; exact ⟨rfl, rfl, rfl, fun d h => (by cases h), fun _ => rfl⟩
    | some d =>
      rw [hd] at e
      simp only at e
      obtain ⟨h1, e1⟩ := chk_ok e
      simp only [Except.ok.injEq] at e1; subst e1
      exact ⟨rfl, rfl, rfl, fun d' h => (by cases h; exact ⟨blt_true h1, rfl⟩), fun h => (by cases h)⟩
  unfold opW at e
  obtain ⟨b, hb1, e1⟩ := bnd_ok e
  clear e
  cases b with
  | false =>
    simp only at e1
    obtain ⟨s1, hs1, e2⟩ := bnd_ok e1
    simp only [Except.ok.injEq, Prod.mk.injEq] at e2
    obtain ⟨rfl, rfl, rfl⟩ := e2
    obtain ⟨h1, h2, h3, h4, h5⟩ := hput hs1
    exact ⟨hb1, h2, h3, h4, h5, .inl ⟨rfl, rfl, h1⟩⟩
  | true =>
    simp only at e1
    obtain ⟨rs, hrs, e2⟩ := bnd_ok e1
    obtain ⟨⟨v1, h1⟩, hv1, e3⟩ := bnd_ok e2
    obtain ⟨s1, hs1, e4⟩ := bnd_ok e3
    simp only [Except.ok.injEq, Prod.mk.injEq] at e4
    obtain ⟨rfl, rfl, rfl⟩ := e4
    obtain ⟨g1, g2, g3, g4, g5⟩ := hput hs1
    exact ⟨hb1, g2, g3, g4, g5, .inr ⟨rfl, rs, h1, hrs, hv1, g1⟩⟩

def tvAt (tr : List T3) (i : Nat) : Value := match tr[i]? with | some t => t.v | none => undef
def twAt (tr : List T3) (i : Nat) : Bool := match tr[i]? with | some t => t.wd | none => false

def IsE (ty : Tr TD) (ops : Array Oper) (i : Nat) : Prop := ∃ o, ops[i]? = some o ∧ clOf ty o.op = 3
def Is2 (ty : Tr TD) (ops : Array Oper) (i : Nat) : Prop := ∃ o, ops[i]? = some o ∧ clOf ty o.op = 2

/-- A region, seen in the order of its text. -/
structure Seen (En : Env) (ev : Evl) (ops : Array Oper) (ib : Nat) (tr : List T3) (s0 sf : St) : Prop where
  zero : stAt tr sf 0 = s0
  step : ∀ i o, ops[i]? = some o → opW En ev ops.toList (ib + i) o (stAt tr sf i) = .ok (twAt tr i, tvAt tr i, stAt tr sf (i + 1))
  last : stAt tr sf ops.size = sf
  bd : ib + ops.size < maxCnt
  cn : s0.hp.cnt = ib + ops.size
  ntb : s0.nt ≤ maxCnt
  fre : ∀ x, x < ops.size → s0.hp.obs.get (ib + x) = none

section
variable {En : Env} {ev : Evl} {ops : Array Oper} {ib : Nat} {tr : List T3} {s0 sf : St} (hS : Seen En ev ops ib tr s0 sf)
include hS

theorem Seen.one {i : Nat} (hi : i < ops.size) (hne : ¬ IsE En.ty ops i) :
    (stAt tr sf (i + 1)).hp = (stAt tr sf i).hp ∨ (Is2 En.ty ops i ∧ twAt tr i = true ∧ ∃ ob, famOf ob = 0 ∧ (stAt tr sf (i + 1)).hp = newAt (stAt tr sf i).hp (ib + i) ob) := by
  have ho : ops[i]? = some ops[i] := Array.getElem?_eq_getElem hi
  generalize ops[i] = o at ho
  obtain ⟨_, _, _, _, _, h⟩ := opW_inv (hS.step i o ho)
  rcases h with ⟨_, _, h⟩ | ⟨hw, rs, h', hc, hr, h⟩
  · exact .inl h
  · rcases cl_lt En.ty o.op with hcl | hcl | hcl | hcl
    · obtain ⟨v, rfl, _⟩ := cl0 hcl _ _ _ hc
      simp only [runRs, Except.ok.injEq, Prod.mk.injEq] at hr
      exact .inl (h.trans hr.2.symm)
    · obtain ⟨v, rfl, _⟩ := cl1 hcl _ _ _ hc
      simp only [runRs, Except.ok.injEq, Prod.mk.injEq] at hr
      exact .inl (h.trans hr.2.symm)
    · obtain ⟨v, ob, rfl, hf, _⟩ := cl2 hcl _ _ _ hc
      simp only [runRs, Except.ok.injEq, Prod.mk.injEq] at hr
      exact .inr ⟨⟨o, ho, hcl⟩, hw, ob, hf, h.trans hr.2.symm⟩
    · exact absurd ⟨o, ho, hcl⟩ hne

theorem Seen.newAt_get {h : Hp} {i : Nat} (hi : i < ops.size) (ob : Ob) (x : Nat) : (newAt h (ib + i) ob).obs.get x = if x = ib + i then some ob else h.obs.get x := by
  have := hS.bd
  have := pow40
  exact Tr.get_put _ _ _ _ (by omega)

/-- Where no effect comes in between, blocks are laid and no more. -/
theorem Seen.quiet {k : Nat} (hfr : ∀ x, k ≤ x → x < ops.size → (stAt tr sf k).hp.obs.get (ib + x) = none) : ∀ k', k ≤ k' → k' ≤ ops.size → (∀ i, k ≤ i → i < k' → ¬ IsE En.ty ops i) →
    (stAt tr sf k').hp.cnt = (stAt tr sf k).hp.cnt ∧ (stAt tr sf k').hp.fams = (stAt tr sf k).hp.fams ∧ (∀ x, k' ≤ x → x < ops.size → (stAt tr sf k').hp.obs.get (ib + x) = none) ∧
    (∀ b ob, (stAt tr sf k).hp.obs.get b = some ob → (stAt tr sf k').hp.obs.get b = some ob) ∧
    (∀ b ob, (stAt tr sf k').hp.obs.get b = some ob → (stAt tr sf k).hp.obs.get b = some ob ∨ ∃ i, k ≤ i ∧ i < k' ∧ b = ib + i ∧ Is2 En.ty ops i ∧ twAt tr i = true ∧ famOf ob = 0 ∧ (stAt tr sf (i + 1)).hp.obs.get (ib + i) = some ob) ∧
    (∀ i ob, k ≤ i → i < k' → (stAt tr sf (i + 1)).hp.obs.get (ib + i) = some ob → (stAt tr sf k').hp.obs.get (ib + i) = some ob) := by
  intro k'
  induction k' with
  | zero =>
    intro hk hn hq
    have : k = 0 := by omega
    subst this
    exact ⟨rfl, rfl, hfr, fun _ _ h => h, fun _ _ h => .inl h, fun i ob h1 h2 => by omega⟩
  | succ k' ih =>
    intro hk hn hq
    by_cases hkk : k = k' + 1
    · subst hkk
      exact ⟨rfl, rfl, hfr, fun _ _ h => h, fun _ _ h => .inl h, fun i ob h1 h2 => by omega⟩
    have hk : k ≤ k' := by omega
    obtain ⟨h1, h2, h3, h4, h5, h6⟩ := ih hk (by omega) fun i a b => hq i a (by omega)
    rcases hS.one (i := k') (by omega) (hq k' hk (by omega)) with e | ⟨c2, tw, ob0, hf, e⟩
    · rw [e]
      refine ⟨h1, h2, fun x a b => h3 x (by omega) b, h4, fun b ob hb => (h5 b ob hb).imp id ?_, fun i ob a b hg => ?_⟩
      · rintro ⟨i, a, b, r⟩; exact ⟨i, a, by omega, r⟩
      · by_cases ei : i = k'
        · subst ei; rw [e] at hg; exact hg
        · exact h6 i ob a (by omega) hg
    · have hg := fun x => hS.newAt_get (h := (stAt tr sf k').hp) (i := k') (by omega) ob0 x
      have hnone := h3 k' (Nat.le_refl _) (by omega)
      refine ⟨by rw [e]; exact h1, by rw [e]; exact h2, fun x a b => ?_, fun b ob hb => ?_, fun b ob hb => ?_, fun i ob a b hgi => ?_⟩
      · rw [e, hg, if_neg (by omega)]; exact h3 x (by omega) b
      · rw [e, hg]
        have := h4 b ob hb
        split
        · rename_i eb; rw [eb, hnone] at this; cases this
        · exact this
      · rw [e, hg] at hb
        split at hb
        · rename_i eb
          simp only [Option.some.injEq] at hb
          subst hb
          exact .inr ⟨k', hk, by omega, eb, c2, tw, hf, by rw [e, hg, if_pos rfl]⟩
        · refine (h5 b ob hb).imp id ?_
          rintro ⟨i, a, b, r⟩; exact ⟨i, a, by omega, r⟩
      · by_cases ei : i = k'
        · subst ei; exact hgi
        · rw [e, hg, if_neg (by omega)]; exact h6 i ob a (by omega) hgi

/-- What stands in a temporary. -/
theorem Seen.tm : ∀ i, i ≤ ops.size → (stAt tr sf i).nt = s0.nt ∧ (stAt tr sf i).ro = s0.ro ∧ ∀ t,
    (∃ i' o', i' < i ∧ ops[i']? = some o' ∧ o'.dst = some t ∧ evo (stAt tr sf i).tm (.tmp t) = tvAt tr i') ∨ ((∀ i' o', i' < i → ops[i']? = some o' → o'.dst ≠ some t) ∧ evo (stAt tr sf i).tm (.tmp t) = evo s0.tm (.tmp t)) := by
  intro i
  induction i with
  | zero => intro _; rw [hS.zero]; exact ⟨rfl, rfl, fun t => .inr ⟨fun i' o' h => by omega, rfl⟩⟩
  | succ i ih =>
    intro hi
    obtain ⟨h1, h2, h3⟩ := ih (by omega)
    have ho : ops[i]? = some ops[i] := Array.getElem?_eq_getElem (by omega)
    generalize ops[i] = o at ho
    obtain ⟨_, g1, g2, g3, g4, _⟩ := opW_inv (hS.step i o ho)
    refine ⟨g1.trans h1, g2.trans h2, fun t => ?_⟩
    have hp := pow40
    have hnt := hS.ntb
    by_cases hd : o.dst = some t
    · obtain ⟨k1, k2⟩ := g3 t hd
      rw [h1] at k1
      left
      refine ⟨i, o, by omega, ho, hd, ?_⟩
      simp only [evo, k2]
      rw [Tr.get_put _ _ _ _ (Nat.lt_of_le_of_lt (Nat.succ_le_of_lt (Nat.lt_of_lt_of_le k1 hnt)) hp), if_pos rfl]
    · have hsame : evo (stAt tr sf (i + 1)).tm (.tmp t) = evo (stAt tr sf i).tm (.tmp t) := by
        cases hod : o.dst with
        | none => rw [g4 hod]
        | some d =>
          obtain ⟨k1, k2⟩ := g3 d hod
          rw [h1] at k1
          simp only [evo, k2]
          rw [Tr.get_put _ _ _ _ (Nat.lt_of_le_of_lt (Nat.succ_le_of_lt (Nat.lt_of_lt_of_le k1 hnt)) hp), if_neg (fun e => hd (by rw [hod, e]))]
      rw [hsame]
      rcases h3 t with ⟨i', o', a, b, c, d⟩ | ⟨a, b⟩
      · exact .inl ⟨i', o', by omega, b, c, d⟩
      · refine .inr ⟨fun i' o' hl hg => ?_, b⟩
        by_cases e : i' = i
        · subst e; rw [ho] at hg; cases hg; exact hd
        · exact a i' o' (by omega) hg
end

theorem next_effect (ty : Tr TD) (ops : Array Oper) (k : Nat) (hk : k ≤ ops.size) : ∃ j, k ≤ j ∧ j ≤ ops.size ∧ (∀ i, k ≤ i → i < j → ¬ IsE ty ops i) ∧ (j < ops.size → IsE ty ops j) := by
  have key : ∀ d k, k + d = ops.size → ∃ j, k ≤ j ∧ j ≤ ops.size ∧ (∀ i, k ≤ i → i < j → ¬ IsE ty ops i) ∧ (j < ops.size → IsE ty ops j) := by
    intro d
    induction d with
    | zero => intro k hk; exact ⟨k, Nat.le_refl _, by omega, fun i a b => by omega, fun h => by omega⟩
    | succ d ih =>
      intro k hk
      by_cases h : IsE ty ops k
      · exact ⟨k, Nat.le_refl _, by omega, fun i a b => by omega, fun _ => h⟩
      · obtain ⟨j, g1, g2, g3, g4⟩ := ih (k + 1) (by omega)
        refine ⟨j, by omega, g2, fun i a b => ?_, g4⟩
        by_cases e : i = k
        · rw [e]; exact h
        · exact g3 i (by omega) b
  exact key (ops.size - k) k (by omega)

/-- The state of a region that is being walked in whatever order: what is listed has been walked; j is the next effect. -/
structure DI (En : Env) (ops : Array Oper) (M : List Nat) (ib : Nat) (tr : List T3) (s0 sf : St) (base : Nat) (μ0 : Mu) (w0 : World) (a0 : Act) (listed : Array Bool) (a : Act) (w : World) (μ : Mu) (j : Nat) : Prop where
  sz : listed.size = ops.size
  dc : ∀ k x, listed.getD k false = true → ordB M x k = true → listed.getD x false = true
  jn : j ≤ ops.size
  lo : ∀ i, i < j → IsE En.ty ops i → listed.getD i false = true
  hi : ∀ i, j ≤ i → IsE En.ty ops i → listed.getD i false = false
  je : j < ops.size → IsE En.ty ops j
  hw : HW μ base (stAt tr sf j).hp w
  mv : Mv (fun x => ib ≤ x ∧ x < ib + ops.size) μ0 s0.hp w0 μ (stAt tr sf j).hp w
  un : ∀ i, i < ops.size → listed.getD i false = false → μ.m (ib + i) = none
  fr : ∀ k, k ≤ j → ∀ x, k ≤ x → x < ops.size → (stAt tr sf k).hp.obs.get (ib + x) = none
  pe : ∀ i ob, j ≤ i → i < ops.size → Is2 En.ty ops i → twAt tr i = true → famOf ob = 0 → (stAt tr sf (i + 1)).hp.obs.get (ib + i) = some ob → ∀ B, μ.m (ib + i) = some B → μ.g (ib + i) = 0 ∧ ∃ o, w.heap[B]? = some o ∧ ObR μ B ob o
  sm : a.tmps.size = s0.nt
  tm : ∀ t, (∃ i o, listed.getD i false = true ∧ ops[i]? = some o ∧ o.dst = some t ∧ VR μ (tvAt tr i) (a.tmps.getD t undef)) ∨ ((∀ i o, listed.getD i false = true → ops[i]? = some o → o.dst ≠ some t) ∧ VR μ (evo s0.tm (.tmp t)) (a.tmps.getD t undef))
  df : a.defers = a0.defers

theorem getD_set (l : Array Bool) (i k : Nat) (h : i < l.size) : (l.setIfInBounds i true).getD k false = if k = i then true else l.getD k false := by
  simp only [Array.getD_eq_getD_getElem?, Array.getElem?_setIfInBounds]
  by_cases e : k = i
  · subst e; simp [h]
  · simp [e, Ne.symm e]

section
variable {En : Env} {ev : Evl} {ops : Array Oper} {M : List Nat} (hM : RegOk En.ty ops M) {ib : Nat} {tr : List T3} {s0 sf : St} (hS : Seen En ev ops ib tr s0 sf) {base : Nat} {μ0 : Mu} {w0 : World} {a0 : Act} (hr0 : HW μ0 base s0.hp w0) (hf0 : ∀ x, x < ops.size → μ0.m (ib + x) = none)
  {listed : Array Bool} {a : Act} {w : World} {μ : Mu} {j : Nat} (hD : DI En ops M ib tr s0 sf base μ0 w0 a0 listed a w μ j) {i : Nat} {o : Oper} (ho : ops[i]? = some o) (hul : listed.getD i false = false) (hpre : ∀ x, ordB M x i = true → listed.getD x false = true)
include hM hS hr0 hf0 hD ho hul hpre

theorem DI.dist {i1 i2 : Nat} {o1 o2 : Oper} {t : Tmp} (h1 : ops[i1]? = some o1) (h2 : ops[i2]? = some o2) (d1 : o1.dst = some t) (d2 : o2.dst = some t) : i1 = i2 := by
  have key : ∀ {i1 i2 : Nat} {o1 o2 : Oper}, ops[i1]? = some o1 → ops[i2]? = some o2 → o1.dst = some t → o2.dst = some t → ¬ i1 < i2 := by
    intro i1 i2 o1 o2 h1 h2 d1 d2 hlt
    have := hM.pair hlt h1 h2
    unfold pairOk at this
    rw [d1, d2] at this
    simp at this
  have a := key h1 h2 d1 d2
  have b := key h2 h1 d2 d1
  omega

theorem DI.look {t : Tmp} (ht : t ∈ o.looksAt ops) : VR μ (evo (stAt tr sf i).tm (.tmp t)) (a.tmps.getD t undef) := by
  have hi : i < ops.size := (Array.getElem?_eq_some_iff.1 ho).1
  have dist := @DI.dist En ev ops M hM ib tr s0 sf hS base μ0 w0 a0 hr0 hf0 listed a w μ j hD i o ho hul hpre
  rcases (hS.tm i (by omega)).2.2 t with ⟨i', o', h1, h2, h3, h4⟩ | ⟨h1, h2⟩
  · have hord : ordB M i' i = true := by
      have := hM.pair h1 h2 ho
      unfold pairOk at this
      rw [h3] at this
      simp only [Bool.and_eq_true, Bool.or_eq_true, Bool.not_eq_true'] at this
      rcases this.1.1.2 with h | h
      · rw [List.contains_iff_mem.2 ht] at h; cases h
      · exact h
    have hL := hpre _ hord
    rcases hD.tm t with ⟨i2, o2, g1, g2, g3, g4⟩ | ⟨g1, _⟩
    · have := dist h2 g2 h3 g3
      subst this
      rw [h4]; exact g4
    · exact absurd h3 (g1 i' o' hL h2)
  · rw [h2]
    rcases hD.tm t with ⟨i2, o2, g1, g2, g3, g4⟩ | ⟨_, g2⟩
    · exfalso
      rcases Nat.lt_trichotomy i2 i with h | h | h
      · exact h1 i2 o2 h g2 g3
      · subst h; rw [hul] at g1; cases g1
      · have hord : ordB M i i2 = true := by
          have := hM.pair h ho g2
          unfold pairOk at this
          rw [g3] at this
          simp only [Bool.and_eq_true, Bool.or_eq_true, Bool.not_eq_true'] at this
          rcases this.1.2 with h | h
          · rw [List.contains_iff_mem.2 ht] at h; cases h
          · exact h
        rw [hD.dc i2 i g1 hord] at hul; cases hul
    · exact g2

/-- Unlisted numbers stay free. -/
theorem DI.keepUn {μ' : Mu} {h' : Hp} {w' : World} (m : Mv (· = ib + i) μ (stAt tr sf j).hp w μ' h' w') {x : Nat} (hx : x < ops.size) (hne : x ≠ i) : (μ.m (ib + x) = none → μ'.m (ib + x) = none) ∧ ∀ B, μ'.m (ib + x) = some B → μ.m (ib + x) = some B := by
  have hcnt := hD.mv.cnt
  have hc0 := hS.cn
  have key : ∀ B, μ.m (ib + x) = none → μ'.m (ib + x) ≠ some B := by
    intro B hn hB
    rcases (m.new _ B hn hB).1 with h | h <;> omega
  refine ⟨fun hn => ?_, fun B hB => ?_⟩
  · cases hB : μ'.m (ib + x) with
    | none => rfl
    | some B => exact absurd hB (key B hn)
  · cases hn : μ.m (ib + x) with
    | none => exact absurd hB (key B hn)
    | some B' =>
      have := m.le.m hn
      rw [hB] at this; exact this.symm

theorem DI.keepPe {μ' : Mu} {h' : Hp} {w' : World} (m : Mv (· = ib + i) μ (stAt tr sf j).hp w μ' h' w') {x : Nat} {ob : Ob} (hx : x < ops.size) (hne : x ≠ i) (hjx : j ≤ x) (h2 : Is2 En.ty ops x) (htw : twAt tr x = true) (hf : famOf ob = 0)
    (hob : (stAt tr sf (x + 1)).hp.obs.get (ib + x) = some ob) : ∀ B, μ'.m (ib + x) = some B → μ'.g (ib + x) = 0 ∧ ∃ o, w'.heap[B]? = some o ∧ ObR μ' B ob o := by
  intro B hB
  have hB0 := (DI.keepUn hM hS hr0 hf0 hD ho hul hpre m hx hne).2 B hB
  obtain ⟨g1, o1, g2, g3⟩ := hD.pe x ob hjx hx h2 htw hf hob B hB0
  refine ⟨by rw [m.le.g hB0]; exact g1, o1, ?_, g3.mono m.le hB0⟩
  rw [m.frame B (Array.getElem?_eq_some_iff.1 g2).1 ?_]
  · exact g2
  · intro b ob' hb hg
    rcases hD.hw.inj hb hB0 with h | ⟨h, hne'⟩
    · subst h
      rw [hD.fr j (Nat.le_refl _) x hjx hx] at hg; cases hg
    · rw [h, g1] at hne'; exact hne' rfl

theorem DI.keepTm {μ' : Mu} (hle : μ.le μ') {v' : Value} (hv : VR μ' (tvAt tr i) v') :
    (a.put o.dst v').tmps.size = s0.nt ∧ (∀ t, (∃ k o', (listed.setIfInBounds i true).getD k false = true ∧ ops[k]? = some o' ∧ o'.dst = some t ∧ VR μ' (tvAt tr k) ((a.put o.dst v').tmps.getD t undef)) ∨
      ((∀ k o', (listed.setIfInBounds i true).getD k false = true → ops[k]? = some o' → o'.dst ≠ some t) ∧ VR μ' (evo s0.tm (.tmp t)) ((a.put o.dst v').tmps.getD t undef))) ∧ (a.put o.dst v').defers = a0.defers := by
  have hi : i < ops.size := (Array.getElem?_eq_some_iff.1 ho).1
  have hset := getD_set listed i
  have hsz := hD.sz
  have hstep := (opW_inv (hS.step i o ho)).2.2.2.1
  have hnt := (hS.tm i (by omega)).1
  refine ⟨?_, fun t => ?_, ?_⟩
  · unfold Act.put; split <;> simp [hD.sm]
  · by_cases hd : o.dst = some t
    · left
      refine ⟨i, o, by rw [hset _ (by omega), if_pos rfl], ho, hd, ?_⟩
      have hlt : t < a.tmps.size := by rw [hD.sm, ← hnt]; exact (hstep t hd).1
      have : (a.put o.dst v').tmps.getD t undef = v' := by
        rw [hd]; simp [Act.put, Array.getD_eq_getD_getElem?, hlt]
      rw [this]; exact hv
    · have hsame : (a.put o.dst v').tmps.getD t undef = a.tmps.getD t undef := by
        cases hod : o.dst with
        | none => rfl
        | some d =>
          have : d ≠ t := fun e => hd (by rw [hod, e])
          simp [Act.put, Array.getD_eq_getD_getElem?, Array.getElem?_setIfInBounds, this]
      rw [hsame]
      rcases hD.tm t with ⟨i2, o2, g1, g2, g3, g4⟩ | ⟨g1, g2⟩
      · refine .inl ⟨i2, o2, ?_, g2, g3, g4.mono hle⟩
        rw [hset _ (by omega)]; split
        · rfl
        · exact g1
      · refine .inr ⟨fun k o' hk hk2 => ?_, g2.mono hle⟩
        rw [hset _ (by omega)] at hk
        split at hk
        · rename_i e; subst e; rw [ho] at hk2; cases hk2; exact hd
        · exact g1 k o' hk hk2
  · rw [← hD.df]; unfold Act.put; split <;> rfl

theorem DI.keepMv {μ' : Mu} {h' : Hp} {w' : World} (m : Mv (· = ib + i) μ (stAt tr sf j).hp w μ' h' w') : Mv (fun x => ib ≤ x ∧ x < ib + ops.size) μ0 s0.hp w0 μ' h' w' := by
  have hi : i < ops.size := (Array.getElem?_eq_some_iff.1 ho).1
  refine (hD.mv.trans m (fun hx => (hr0.oldm hx).1) (fun x hx => ?_)).mono fun x hx => ?_
  · have := hf0 (x - ib) (by omega)
    rw [show ib + (x - ib) = x by omega] at this
    exact this
  · rcases hx with hx | hx
    · exact hx
    · omega

theorem DI.keepDc : ∀ k x, (listed.setIfInBounds i true).getD k false = true → ordB M x k = true → (listed.setIfInBounds i true).getD x false = true := by
  have hi : i < ops.size := (Array.getElem?_eq_some_iff.1 ho).1
  have hset := fun k => getD_set listed i k (by rw [hD.sz]; exact hi)
  intro k x hk hx
  rw [hset] at hk ⊢
  split
  · rfl
  · split at hk
    · rename_i e; subst e; exact hpre x hx
    · exact hD.dc k x hk hx

/-- An operation that is no effect has been walked. -/
theorem DI.quietStep (hne : ¬ IsE En.ty ops i) {μ' : Mu} {w' : World} {v' : Value} (hv : VR μ' (tvAt tr i) v') (hw : HW μ' base (stAt tr sf j).hp w') (m : Mv (· = ib + i) μ (stAt tr sf j).hp w μ' (stAt tr sf j).hp w')
    (hpe : ∀ ob, j ≤ i → Is2 En.ty ops i → twAt tr i = true → famOf ob = 0 → (stAt tr sf (i + 1)).hp.obs.get (ib + i) = some ob → ∀ B, μ'.m (ib + i) = some B → μ'.g (ib + i) = 0 ∧ ∃ o, w'.heap[B]? = some o ∧ ObR μ' B ob o) :
    DI En ops M ib tr s0 sf base μ0 w0 a0 (listed.setIfInBounds i true) (a.put o.dst v') w' μ' j := by
  have hi : i < ops.size := (Array.getElem?_eq_some_iff.1 ho).1
  have hset := fun k => getD_set listed i k (by rw [hD.sz]; exact hi)
  obtain ⟨t1, t2, t3⟩ := DI.keepTm hM hS hr0 hf0 hD ho hul hpre m.le hv
  refine ⟨by simp [hD.sz], DI.keepDc hM hS hr0 hf0 hD ho hul hpre, hD.jn, fun k hk he => ?_, fun k hk he => ?_, hD.je, hw, DI.keepMv hM hS hr0 hf0 hD ho hul hpre m, fun k hk hl => ?_, hD.fr, fun k ob hjk hk h2 htw hf hob => ?_, t1, t2, t3⟩
  · rw [hset]; split
    · rfl
    · exact hD.lo k hk he
  · rw [hset, if_neg (by rintro rfl; exact hne he)]; exact hD.hi k hk he
  · rw [hset] at hl
    split at hl
    · cases hl
    · rename_i hki
      exact (DI.keepUn hM hS hr0 hf0 hD ho hul hpre m hk hki).1 (hD.un k hk hl)
  · by_cases e : k = i
    · subst e; exact hpe ob hjk h2 htw hf hob
    · exact DI.keepPe hM hS hr0 hf0 hD ho hul hpre m hk e hjk h2 htw hf hob

/-- The next effect has been walked. -/
theorem DI.effectStep (hij : i = j) (he : IsE En.ty ops i) {μ' : Mu} {w' : World} {v' : Value} (hv : VR μ' (tvAt tr i) v') (hw : HW μ' base (stAt tr sf (j + 1)).hp w') (m : Mv (· = ib + i) μ (stAt tr sf j).hp w μ' (stAt tr sf (j + 1)).hp w') :
    ∃ j', DI En ops M ib tr s0 sf base μ0 w0 a0 (listed.setIfInBounds i true) (a.put o.dst v') w' μ' j' := by
  have hi : i < ops.size := (Array.getElem?_eq_some_iff.1 ho).1
  have hset := fun k => getD_set listed i k (by rw [hD.sz]; exact hi)
  obtain ⟨t1, t2, t3⟩ := DI.keepTm hM hS hr0 hf0 hD ho hul hpre m.le hv
  have hcnt := hD.mv.cnt
  have hc0 := hS.cn
  have hfr1 : ∀ x, j + 1 ≤ x → x < ops.size → (stAt tr sf (j + 1)).hp.obs.get (ib + x) = none := fun x hx hn =>
    m.dead _ (by omega) (by omega) (hD.fr j (Nat.le_refl _) x (by omega) hn)
  obtain ⟨j', g1, g2, g3, g4⟩ := next_effect En.ty ops (j + 1) (by omega)
  obtain ⟨q1, q2, q3, q4, q5, q6⟩ := hS.quiet hfr1 j' g1 g2 g3
  have hcnt1 := m.cnt
  have pend : ∀ x ob, j + 1 ≤ x → x < ops.size → Is2 En.ty ops x → twAt tr x = true → famOf ob = 0 → (stAt tr sf (x + 1)).hp.obs.get (ib + x) = some ob → ∀ B, μ'.m (ib + x) = some B → μ'.g (ib + x) = 0 ∧ ∃ o, w'.heap[B]? = some o ∧ ObR μ' B ob o :=
    fun x ob hx hn h2 htw hf hob => DI.keepPe hM hS hr0 hf0 hD ho hul hpre m hn (by omega) (by omega) h2 htw hf hob
  refine ⟨j', by simp [hD.sz], DI.keepDc hM hS hr0 hf0 hD ho hul hpre, g2, fun k hk hke => ?_, fun k hk hke => ?_, g4, ?_, ?_, fun k hk hl => ?_, fun k hk x hx hn => ?_, fun x ob hx hn => pend x ob (by omega) hn, t1, t2, t3⟩
  · rw [hset]; split
    · rfl
    · rcases Nat.lt_or_ge k j with h | h
      · exact hD.lo k h hke
      · exact absurd hke (g3 k (by omega) hk)
  · rw [hset, if_neg (by omega)]; exact hD.hi k (by omega) hke
  · refine hw.ext q1 q2 fun b ob hb => (q5 b ob hb).imp id ?_
    rintro ⟨x, k1, k2, rfl, k3, k4, k5, k6⟩
    exact ⟨k5, by omega, pend x ob k1 (by omega) k3 k4 k5 k6⟩
  · refine (DI.keepMv hM hS hr0 hf0 hD ho hul hpre m).ext q1 fun x hx hI hn => ?_
    cases hg : (stAt tr sf j').hp.obs.get x with
    | none => rfl
    | some ob =>
      rcases q5 x ob hg with h | ⟨y, k1, k2, rfl, _⟩
      · rw [hn] at h; cases h
      · exact absurd ⟨by omega, by omega⟩ hI
  · rw [hset] at hl
    split at hl
    · cases hl
    · rename_i hki
      exact (DI.keepUn hM hS hr0 hf0 hD ho hul hpre m hk hki).1 (hD.un k hk hl)
  · rcases Nat.lt_or_ge j k with h | h
    · exact (hS.quiet hfr1 k h (by omega) fun i a b => g3 i a (by omega)).2.2.1 x hx hn
    · exact hD.fr k h x hx hn
end
end Go.Ev
