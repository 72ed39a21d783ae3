/-
  By an AI agent: a part of the proof of this claim; what is proved stands in the text YtjinlihckmgioaaGreatDoorMain.
-/
import Derived.Test.YtjinlihckmgioaaGreatDoorEvC3
set_option linter.unusedVariables false
set_option linter.unusedSimpArgs false
set_option linter.unusedSectionVars false
set_option linter.unusedVariables false
set_option linter.unusedSimpArgs false
set_option linter.unusedSectionVars false
namespace Go.Ev
open Go

theorem yielded_rel {μ : Mu} {ops : Array Oper} {tm : Tr Value} {nt : Nat} {tmps : Array Value} {j : Nat} {y : Option Bool} (ht : ∀ t, ((ops[j]?).bind (·.dst)) = some t → VR μ (evo tm (.tmp t)) (tmps.getD t undef)) (e : yieldedC ops.toList tm j = .ok y) : yielded ops tmps j = y := by
  unfold yieldedC at e
  unfold yielded
  rw [Array.getElem?_toList] at e
  cases hd : (ops[j]?).bind (·.dst) with
  | none => rw [hd] at e; simp only [Except.ok.injEq] at e; subst e; rfl
  | some t =>
    rw [hd] at e
    simp only at e
    have := ht t hd
    simp only [evo] at this
    simp only [Option.bind_some]
    cases hg : tm.get t with
    | none =>
      rw [hg] at this e
      simp only [Except.ok.injEq] at e this; subst e
      cases htt : tmps[t]? with
      | none => rfl
      | some v =>
        rw [Array.getD_eq_getD_getElem?, htt] at this
        simp only [Option.getD_some] at this
        unfold undef at this
        cases this; rfl
    | some u =>
      rw [hg] at this e
      simp only at e this
      cases u <;> simp only [reduceCtorEq, Except.ok.injEq] at e <;> subst e
      · cases htt : tmps[t]? with
        | none => rw [Array.getD_eq_getD_getElem?, htt] at this; simp only [Option.getD_none, undef] at this; cases this
        | some v => rw [Array.getD_eq_getD_getElem?, htt] at this; simp only [Option.getD_some] at this; cases this; rfl
      · cases htt : tmps[t]? with
        | none => rfl
        | some v => rw [Array.getD_eq_getD_getElem?, htt] at this; simp only [Option.getD_some] at this; cases this; rfl

/-- The destinations that an operation's guard looks at. -/
def Gd (ops : Array Oper) (o : Oper) (t : Tmp) : Prop := ∃ j b, o.guard = some (j, b) ∧ (ops[j]?).bind (·.dst) = some t

theorem wanted_rel {μ : Mu} {ops : Array Oper} {tm : Tr Value} {tmps : Array Value} {o : Oper} {b : Bool} (ht : ∀ t, Gd ops o t → VR μ (evo tm (.tmp t)) (tmps.getD t undef)) (e : wantedC ops.toList tm o = .ok b) : Region.wanted o (yielded ops tmps) = b := by
  unfold wantedC at e
  unfold Region.wanted
  cases hg : o.guard with
  | none => rw [hg] at e; simp only [Except.ok.injEq] at e; subst e; rfl
  | some p =>
    obtain ⟨j, want⟩ := p
    rw [hg] at e
    simp only at e ⊢
    obtain ⟨y, hy, e1⟩ := bnd_ok e
    simp only [Except.ok.injEq] at e1; subst e1
    rw [yielded_rel (nt := 0) (fun t h => ht t ⟨j, want, hg, h⟩) hy]
    cases y with
    | none => rfl
    | some b => rfl

section
variable {P : Program} {En : Env} (hE : EnvOk P En) {ev : Evl} (hev : SoundE P En ev)
include hE hev

/-- One operation of a region. The heap may be one that agrees with the one in which it was seen. -/
theorem opW_sound {ops : Array Oper} {i id : Nat} {o : Oper} (hi : ops[i]? = some o) {s s' : St} {wd : Bool} {v : Value} (e : opW En ev ops.toList id o s = .ok (wd, v, s')) {μ : Mu} {base : Nat} {a : Act} {w : World} {r : Option Nat} (hr : HW μ base s.hp w) (hty : μ.ty = En.ty)
    (hb : base ≤ w.heap.size) (hid : id < s.hp.cnt) (hm : μ.m id = none) (ht : TmR μ s.tm s.nt a.tmps) {K : Act → World → Prop} {Q : Exit → Act → World → Prop}
    (hK : ∀ μ' a' w', HW μ' base s'.hp w' → Mv (· = id) μ s.hp w μ' s'.hp w' → TmR μ' s'.tm s'.nt a'.tmps → s'.nt = s.nt → s'.ro = s.ro → a'.defers = a.defers → K a' w') : wpOpIn (Fw r) 0 P ops Q i K a w := by
  unfold opW at e
  obtain ⟨b, hb1, e1⟩ := bnd_ok e
  clear e
  have hw := wanted_rel (fun t _ => ht.2.2 t) hb1
  unfold wpOpIn
  simp only [hi, hw]
  cases b with
  | false =>
    simp only at e1
    obtain ⟨s1, hs1, e2⟩ := bnd_ok e1
    simp only [Except.ok.injEq, Prod.mk.injEq] at e2
    obtain ⟨rfl, rfl, rfl⟩ := e2
    obtain ⟨h1, h2, h3, h4, h5⟩ := putD_rel ht (undef_rel μ) hs1
    simp only [Bool.false_eq_true, if_false]
    exact ⟨fun _ _ => trivial, hK μ _ w (by rw [h1]; exact hr) (by rw [h1]; exact .refl _ _ _ _) h4 h2 h3 h5⟩
  | true =>
    simp only at e1
    obtain ⟨rs, hrs, e2⟩ := bnd_ok e1
    obtain ⟨⟨v1, h1⟩, hv1, e3⟩ := bnd_ok e2
    obtain ⟨s1, hs1, e4⟩ := bnd_ok e3
    simp only [Except.ok.injEq, Prod.mk.injEq] at e4
    obtain ⟨rfl, rfl, rfl⟩ := e4
    simp only [if_true]
    refine op_sound hE hev hrs hv1 hr hty hb hid hm (fun x _ => evo_rel ht x) fun μ' v' w' g1 g2 g3 => ?_
    obtain ⟨q1, q2, q3, q4, q5⟩ := putD_rel (ht.mono g2.le) g3 hs1
    exact hK μ' _ w' (by rw [q1]; exact g1) (by rw [q1]; exact g2) q4 q2 q3 q5

theorem opsW_sound {ops : Array Oper} {id : Nat} {Q : Exit → Act → World → Prop} {r : Option Nat} {base : Nat} : ∀ (rest : List Oper) (k : Nat), ops.toList.drop k = rest → ∀ {s s' : St}, opsW En ev ops.toList (id + k) rest s = .ok s' → ∀ {μ : Mu} {a : Act} {w : World}, HW μ base s.hp w → μ.ty = En.ty →
    base ≤ w.heap.size → id + ops.size ≤ s.hp.cnt → (∀ x, k ≤ x → x < ops.size → μ.m (id + x) = none) → TmR μ s.tm s.nt a.tmps →
    (∀ μ' a' w', HW μ' base s'.hp w' → Mv (fun x => id ≤ x ∧ x < id + ops.size) μ s.hp w μ' s'.hp w' → TmR μ' s'.tm s'.nt a'.tmps → s'.nt = s.nt → s'.ro = s.ro → a'.defers = a.defers → Q .normal a' w') →
    wpOpsIn (Fw r) 0 P ops Q (List.range' k rest.length) a w
  | [], k, hk, s, s', e, μ, a, w, hr, hty, hb, hc, hm, ht, hQ => by
    simp only [opsW, Except.ok.injEq] at e; subst e
    exact hQ μ a w hr (.refl _ _ _ _) ht rfl rfl rfl
  | o :: rest, k, hk, s, s', e, μ, a, w, hr, hty, hb, hc, hm, ht, hQ => by
    simp only [opsW] at e
    obtain ⟨⟨wd, v, s1⟩, h1, e1⟩ := bnd_ok e
    have hlen : k < ops.size := by
      have := congrArg List.length hk
      simp at this; omega
    have hget : ops[k]? = some o := by
      have := congrArg List.head? hk
      rw [List.head?_drop, Array.getElem?_toList] at this
      simpa using this
    have hrest : ops.toList.drop (k + 1) = rest := by
      have := congrArg List.tail hk
      rw [List.tail_drop] at this
      simpa using this
    rw [List.length_cons, List.range'_succ, wpOpsIn_cons]
    refine opW_sound hE hev hget h1 hr hty hb (by omega) (hm k (Nat.le_refl _) hlen) ht ?_
    intro μ1 a1 w1 g1 g2 g3 g4 g5 g6
    refine opsW_sound rest (k + 1) hrest (by rw [← Nat.add_assoc]; exact e1) g1 (g2.le.ty.trans hty) (Nat.le_trans hb g2.size) (Nat.le_trans hc g2.cnt) (fun x hx hx2 => ?_) g3 ?_
    · cases hmx : μ1.m (id + x) with
      | none => rfl
      | some B =>
        rcases (g2.new _ B (hm x (by omega) hx2) hmx).1 with h | h
        · omega
        · omega
    · intro μ2 a2 w2 k1 k2 k3 k4 k5 k6
      refine hQ μ2 a2 w2 k1 ((g2.trans k2 (fun hx => (hr.oldm hx).1) (fun x hx => by rw [hx]; exact hm k (Nat.le_refl _) hlen)).mono fun x hx => ?_) k3 (k4.trans g4) (k5.trans g5) (k6.trans g6)
      rcases hx with hx | hx
      · omega
      · exact hx

/-- What a region's numbers are: new. -/
theorem Mv.closed {I : Nat → Prop} {μ μ' : Mu} {h h1 h' : Hp} {w w' : World} (m : Mv I μ h1 w μ' h' w') (ho : h1.obs = h.obs) (hc : h.cnt ≤ h1.cnt) (hI : ∀ x, I x → h.cnt ≤ x) : Mv (fun _ => False) μ h w μ' h' w' :=
  ⟨m.le, Nat.le_trans hc m.cnt, fun x hx _ hg => m.dead x (Nat.lt_of_lt_of_le hx hc) (fun hi => by have := hI x hi; omega) (by rw [ho]; exact hg),
    fun x B h1 h2 => ⟨.inr ((m.new x B h1 h2).1.elim (hI x) (Nat.le_trans hc)), by have := (m.new x B h1 h2).2; rw [ho] at this; exact this⟩, m.size, fun B hB hn => m.frame B hB (by rw [ho]; exact hn), m.os, m.output, m.tape⟩

theorem region_sound {ops : Array Oper} {id : Nat} {s s' : St} (hc : (s.hp.cnt + ops.size).blt maxCnt = true) (e : opsW En ev ops.toList s.hp.cnt ops.toList (bump s ops.size) = .ok s') {μ : Mu} {base : Nat} {a : Act} {w : World} {r : Option Nat} (hr : HW μ base s.hp w) (hty : μ.ty = En.ty)
    (hb : base ≤ w.heap.size) (ht : TmR μ s.tm s.nt a.tmps) {Q : Exit → Act → World → Prop} (hQ : ∀ μ' a' w', Pst base μ s a w s' μ' a' w' → Q .normal a' w') : (Code.region id ops false).wpIn (Fw r) 0 P Q a w := by
  refine wpIn_region ?_
  have hc := blt_true hc
  have hb1 : HW μ base (bump s ops.size).hp w := hr.bump rfl rfl (by simp [bump]) (by simp only [bump]; omega)
  have := opsW_sound hE hev (ops := ops) (id := s.hp.cnt) (Q := Q) (r := r) (base := base) ops.toList 0 rfl (s := bump s ops.size) (s' := s') (by simpa using e) hb1 hty hb (by simp [bump]) (fun x _ hx => (hr.fr (by omega)).2) ht
    (fun μ' a' w' g1 g2 g3 g4 g5 g6 => hQ μ' a' w' ⟨g1, Mv.closed hE hev g2 rfl (by simp [bump]) (fun x hx => hx.1), g3, g4, g5, [], by simpa using g6, .nil, by simp⟩)
  rw [Array.length_toList, ← List.range_eq_range'] at this
  exact this
end
end Go.Ev
