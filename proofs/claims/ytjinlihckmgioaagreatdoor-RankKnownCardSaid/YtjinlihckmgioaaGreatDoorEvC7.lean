/-
  By an AI agent: a part of the proof of this claim; what is proved stands in the text YtjinlihckmgioaaGreatDoorMain.
-/
import Derived.Test.YtjinlihckmgioaaGreatDoorEvC6
set_option linter.unusedVariables false
set_option linter.unusedSimpArgs false
set_option linter.unusedSectionVars false
set_option linter.unusedVariables false
namespace Go.Ev
open Go Go.RowKit

/-- A call without arguments that the evaluator takes to true: it returns true, in whatever world, and leaves alone what was there. -/
theorem ev_calls {P : Program} {En : Env} (hE : EnvOk P En) {N f : Nat} (e : isTrue (evCall0 En N f) = true) (w : World) : Calls P f #[] w fun e w' => e = .returned (.bool true) ∧ Below w.heap.size w w' := by
  unfold isTrue at e
  split at e
  · rename_i b h' he
    subst e
    obtain ⟨μ, hμ⟩ : ∃ μ : Mu, μ = ⟨fun _ => none, fun _ => 0, fun _ => 0, En.ty⟩ := ⟨_, rfl⟩
    have hm : ∀ x, μ.m x = none := fun x => by rw [hμ]
    have hget : ∀ {α : Type} (x : Nat), (Tr.leaf : Tr α).get x = none := fun x => rfl
    have hr : HW μ w.heap.size hp0 w := by
      refine ⟨⟨fun {b ob B} h _ => (by cases h), fun {b ob B} h _ => (by cases h), fun {b1 b2 B} h _ => (by rw [hm] at h; cases h), fun {b k f} h _ => (by cases h), by decide, fun {b ob} h => (by cases h), fun {b B} h => (by rw [hm] at h; cases h)⟩, fun f st h => (by cases h)⟩
    refine callsIn_wide.1 (call_sound hE (evN_sound hE N) he hr (by rw [hμ]) (Nat.le_refl _) (args' := []) .nil ?_)
    intro μ' v' w' _ m hv
    cases hv
    refine ⟨rfl, ?_⟩
    exact ⟨m.os, m.tape, m.output, m.size, fun k hk => m.frame k hk (fun b ob hb => by rw [hm] at hb; cases hb)⟩
  · cases e
end Go.Ev
