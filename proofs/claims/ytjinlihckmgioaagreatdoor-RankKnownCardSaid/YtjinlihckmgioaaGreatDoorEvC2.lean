/-
  By an AI agent: a part of the proof of this claim; what is proved stands in the text YtjinlihckmgioaaGreatDoorMain.
-/
import Derived.Test.YtjinlihckmgioaaGreatDoorEvC1
set_option linter.unusedVariables false
set_option linter.unusedSimpArgs false
set_option linter.unusedSectionVars false
set_option linter.unusedVariables false
set_option linter.unusedSimpArgs false
set_option linter.unusedSectionVars false
namespace Go.Ev
open Go

def exOf : Ex → Exit
  | .normal => .normal
  | .exit i => .exit i
  | .ret => .ret
def mark (D : Nat) : Deferred := { target := .collected D, args := #[] }

/-- What a walk of code leaves. -/
structure Pst (base : Nat) (μ : Mu) (s : St) (a : Act) (w : World) (s' : St) (μ' : Mu) (a' : Act) (w' : World) : Prop where
  hw : HW μ' base s'.hp w'
  mv : Mv (fun _ => False) μ s.hp w μ' s'.hp w'
  tm : TmR μ' s'.tm s'.nt a'.tmps
  nt : s'.nt = s.nt
  ro : s'.ro = s.ro
  df : ∃ Ds : List Nat, a'.defers = Ds.map mark ++ a.defers ∧ Ds.Nodup ∧ ∀ D ∈ Ds, w.heap.size ≤ D ∧ Idle μ' s'.hp w' D

def SoundE (P : Program) (En : Env) (ev : Evl) : Prop :=
  ∀ (c : Code) (s s' : St) (e : Ex), ev (toCd En.ty c) s = .ok (e, s') → ∀ (μ : Mu) (base : Nat) (a : Act) (w : World) (r : Option Nat), HW μ base s.hp w → μ.ty = En.ty → base ≤ w.heap.size →
    TmR μ s.tm s.nt a.tmps → RoR μ s.ro r → ∀ Q : Exit → Act → World → Prop, (∀ μ' a' w', Pst base μ s a w s' μ' a' w' → Q (exOf e) a' w') → c.wpIn (Fw r) 0 P Q a w

theorem results_run {P : Program} {En : Env} (hE : EnvOk P En) {base : Nat} {μ : Mu} {h : Hp} {w : World} (hr : HW μ base h w) {tm : Tr Value} {nt : Nat} {tmps : Array Value} (ht : TmR μ tm nt tmps) {fn : Func} {vs : List Value}
    (e : resCs En tm h fn.results.toList = .ok vs) : ∃ v', (results fn tmps).run P w = .ok v' w ∧ VR μ (outV vs) v' := by
  obtain ⟨vs', hrun, hrel⟩ := resCs_run hE hr ht e
  have hl := hrel.length
  refine ⟨if h : vs'.toArray.size = 1 then vs'.toArray[0] else .tuple vs'.toArray, ?_, ?_⟩
  · have hres : results fn tmps = (do
        let vs ← fn.results.mapM (resOf tmps)
        pure (if h : vs.size = 1 then vs[0] else .tuple vs)) := by
      unfold results
      congr 1
    rw [hres, Sem.run_bind, ← Array.toArray_toList (xs := fn.results), List.mapM_toArray, map_eq_pure_bind, Sem.run_bind, hrun]
    simp only [Result.andThen_ok, Sem.run_pure]
  · cases hrel with
    | nil => simp only [outV, List.size_toArray, List.length_nil, Nat.zero_ne_one, dite_false]; exact .tuple .nil
    | cons h hs =>
      cases hs with
      | nil => simpa [outV] using h
      | cons h2 hs2 =>
        simp only [outV, List.size_toArray, List.length_cons, Nat.add_right_cancel_iff, Nat.add_eq_zero_iff, Nat.one_ne_zero, and_false, dite_false]
        exact .tuple (.cons h (.cons h2 hs2))

section
variable {P : Program} {En : Env} (hE : EnvOk P En) {ev : Evl} (hev : SoundE P En ev)
include hE

/-- A frame leaves: marks alone stand among its deferred calls. -/
theorem leaves_sound {fn : Func} {R : Ending → World → Prop} {h' : Hp} {tm : Tr Value} {nt : Nat} {tmps : Array Value} {vs : List Value} (e : resCs En tm h' fn.results.toList = .ok vs) {μ' : Mu} {base : Nat} (ht : TmR μ' tm nt tmps) {lo : Nat} :
    ∀ (Ds : List Nat) (w' : World), HW μ' base h' w' → Ds.Nodup → (∀ D ∈ Ds, lo ≤ D ∧ Idle μ' h' w' D) →
      (∀ v' w2, HW μ' base h' w2 → w2.heap.size = w'.heap.size → (∀ B, B < lo → w2.heap[B]? = w'.heap[B]?) → w2.os = w'.os → w2.output = w'.output → w2.tape = w'.tape →
        VR μ' (outV vs) v' → R (.returned v') w2) →
      LeavesInM (Fw none) 0 P fn tmps R (Ds.map mark) .returning w'
  | [], w', hr, _, _, hR => by
    obtain ⟨v', q1, q2⟩ := results_run hE hr ht e
    exact ⟨v', q1, hR v' w' hr rfl (fun _ _ => rfl) rfl rfl rfl q2⟩
  | D :: Ds, w', hr, hn, hD, hR => by
    obtain ⟨hlo, hid⟩ := hD D (by simp)
    have hn' := List.nodup_cons.1 hn
    refine ⟨by simp, .inl ⟨D, w'.putObj D (.deferred none), rfl, run_takeDeferred hid.1, ?_⟩⟩
    refine leaves_sound (lo := lo) e ht Ds _ (hr.idle hid.2 _) hn'.2 (fun D' hD' => ?_) (fun v' w2 h1 h2 h3 h4 h5 h6 h7 => ?_)
    · obtain ⟨g1, g2⟩ := hD D' (by simp [hD'])
      refine ⟨g1, ?_, g2.2⟩
      rw [putObj_heap, if_neg (by rintro ⟨rfl, _⟩; exact hn'.1 hD')]
      exact g2.1
    · refine hR v' w2 h1 (by rw [h2]; simp) (fun B hB => ?_) h4 h5 h6 h7
      rw [h3 B hB, putObj_heap, if_neg (fun hh => by omega)]

include hev
theorem call_sound {f : Nat} {args args' : List Value} {h h' : Hp} {v : Value} (e : callW En ev f args h = .ok (v, h')) {μ : Mu} {base : Nat} {w : World} (hr : HW μ base h w) (hty : μ.ty = En.ty) (hb : base ≤ w.heap.size) (ha : VRL μ args args')
    {R : Ending → World → Prop} (hR : ∀ μ' v' w', HW μ' base h' w' → Mv (fun _ => False) μ h w μ' h' w' → VR μ' v v' → R (.returned v') w') : CallsIn (Fw none) 0 P f args'.toArray w R := by
  unfold callW at e
  obtain ⟨d, hd, e1⟩ := bnd_ok e
  clear e
  obtain ⟨hck, e2⟩ := chk_ok e1
  clear e1
  obtain ⟨⟨x, s⟩, hx, e3⟩ := bnd_ok e2
  clear e2
  obtain ⟨fn, c, q1, q2, q3, rfl⟩ := hE.fn (opt_ok hd)
  simp only [Bool.and_eq_true] at hck
  have hl := Nat.le_of_ble_eq_true hck.1
  have hn := blt_true hck.2
  refine callsIn_of_wp_marks q1 q3 trivial ?_
  refine hev c _ s x hx μ base _ w none hr hty hb (TmR.enter ha hl hn) trivial _ ?_
  intro μ' a' w' hp
  have e4 : ∃ vs, resCs En s.tm s.hp fn.results.toList = .ok vs ∧ v = outV vs ∧ h' = s.hp ∧ ∀ i, x ≠ .exit i := by
    cases x with
    | exit i => cases e3
    | normal =>
      obtain ⟨vs, hvs, e4⟩ := bnd_ok e3
      simp only [Except.ok.injEq, Prod.mk.injEq] at e4
      exact ⟨vs, hvs, e4.1.symm, e4.2.symm, fun i => by simp⟩
    | ret =>
      obtain ⟨vs, hvs, e4⟩ := bnd_ok e3
      simp only [Except.ok.injEq, Prod.mk.injEq] at e4
      exact ⟨vs, hvs, e4.1.symm, e4.2.symm, fun i => by simp⟩
  obtain ⟨vs, hvs, rfl, rfl, hne⟩ := e4
  obtain ⟨Ds, hd1, hd2, hd3⟩ := hp.df
  simp only [List.append_nil] at hd1
  have hsz := hp.mv.size
  have key := leaves_sound (P := P) hE (fn := fn) (R := R) hvs hp.tm Ds w' hp.hw hd2 hd3 (fun v' w2 h1 h2 h3 h4 h5 h6 h7 => by
    refine hR μ' v' w2 h1 ?_ h7
    have m := hp.mv
    refine ⟨m.le, m.cnt, m.dead, m.new, by rw [h2]; exact m.size, fun B hB hno => ?_, h4.trans m.os, h5.trans m.output, h6.trans m.tape⟩
    rw [h3 B hB]; exact m.frame B hB hno)
  cases x with
  | exit i => exact absurd rfl (hne i)
  | normal => simp only [exOf, bodyPostM]; rw [hd1]; exact key
  | ret => simp only [exOf, bodyPostM]; rw [hd1]; exact key
end
end Go.Ev
