/-
  By an AI agent: a part of the proof of this claim; what is proved stands in the text YtjinlihckmgioaaGreatDoorMain.
-/
import Derived.Test.YtjinlihckmgioaaGreatDoorEvMap
set_option linter.unusedVariables false
set_option linter.unusedSimpArgs false
set_option linter.unusedSectionVars false
set_option linter.unusedVariables false
set_option linter.unusedSimpArgs false
set_option linter.unusedSectionVars false
namespace Go.Ev
open Go

/-- One operation. -/
theorem cop_sound {P : Program} {En : Env} (hE : EnvOk P En) {id base : Nat} {μ : Mu} {h : Hp} {w : World} (hr : HW μ base h w)
    (hb : base ≤ w.heap.size) (hid : id < h.cnt) (hm : μ.m id = none) {tm : Tr Value} {ρ : Operand → Value} {o : Oper}
    (hρ : ∀ x ∈ o.op.operands, VR μ (evo tm x) (ρ x)) {rs : Rs} (e : cop En id tm h o = .ok rs) : Sim P id base μ h w rs ((execOp ρ o).run P w) := by
  unfold cop at e
  split at e <;> rename_i ho
  · rename_i x
    simp only [Except.ok.injEq] at e; subst e
    have : (execOp ρ o).run P w = .ok (.value (ρ x)) w := by simp [execOp, ho]
    rw [this]; exact Did.same hr (hρ x (by rw [ho]; simp [Op.operands]))
  · rename_i x
    simp only [Except.ok.injEq] at e; subst e
    have : (execOp ρ o).run P w = .ok (.value (ρ x)) w := by simp [execOp, ho]
    rw [this]; exact Did.same hr (hρ x (by rw [ho]; simp [Op.operands]))
  · exact sim_pick hE hr hb hid hm ho (hρ _ (by rw [ho]; simp [Op.operands])) (hρ _ (by rw [ho]; simp [Op.operands])) (hρ _ (by rw [ho]; simp [Op.operands])) e
  · exact sim_alloc hE hr hb hid hm ho e
  · exact sim_box hE hr hb hid hm ho (hρ _ (by rw [ho]; simp [Op.operands])) e
  · exact sim_build hE hr hb hid hm ho (fun p hp => hρ _ (by rw [ho]; simp only [Op.operands, List.mem_toArray, List.mem_map]; exact ⟨p, hp, rfl⟩)) e
  · exact sim_buildSlice hE hr hb hid hm ho (fun p hp => hρ _ (by rw [ho]; simp only [Op.operands, List.mem_toArray, List.mem_map]; exact ⟨p, hp, rfl⟩)) e
  · exact sim_load hE hr hb hid hm ho (hρ _ (by rw [ho]; simp [Op.operands])) e
  · exact sim_store hE hr hb hid hm ho (hρ _ (by rw [ho]; simp [Op.operands])) (hρ _ (by rw [ho]; simp [Op.operands])) e
  · exact sim_nilCheck hE hr hb hid hm ho (hρ _ (by rw [ho]; simp [Op.operands])) e
  · exact sim_binOp hE hr hb hid hm ho (hρ _ (by rw [ho]; simp [Op.operands])) (hρ _ (by rw [ho]; simp [Op.operands])) e
  · exact sim_unOp hE hr hb hid hm ho (hρ _ (by rw [ho]; simp [Op.operands])) e
  · exact sim_convert hE hr hb hid hm ho (hρ _ (by rw [ho]; simp [Op.operands])) e
  · exact sim_makeFunc hE hr hb hid hm ho (fun x hx => hρ _ (by rw [ho]; simpa [Op.operands] using hx)) e
  · exact sim_makeSlice hE hr hb hid hm ho (hρ _ (by rw [ho]; simp [Op.operands])) (hρ _ (by rw [ho]; simp [Op.operands])) e
  · refine sim_slice hE hr hb hid hm ho (hρ _ (by rw [ho]; simp [Op.operands])) (optR fun y hy => hρ _ ?_) (optR fun y hy => hρ _ ?_) (optR fun y hy => hρ _ ?_) e <;>
      rw [ho] <;> simp [Op.operands, hy]
  · exact sim_fieldAddr hE hr hb hid hm ho (hρ _ (by rw [ho]; simp [Op.operands])) e
  · exact sim_field hE hr hb hid hm ho (hρ _ (by rw [ho]; simp [Op.operands])) e
  · exact sim_indexAddr hE hr hb hid hm ho (hρ _ (by rw [ho]; simp [Op.operands])) (hρ _ (by rw [ho]; simp [Op.operands])) e
  · exact sim_index hE hr hb hid hm ho (hρ _ (by rw [ho]; simp [Op.operands])) (hρ _ (by rw [ho]; simp [Op.operands])) e
  · exact sim_range hE hr hb hid hm ho (hρ _ (by rw [ho]; simp [Op.operands])) e
  · exact sim_next hE hr hb hid hm ho (hρ _ (by rw [ho]; simp [Op.operands])) e
  · exact sim_extract hE hr hb hid hm ho (hρ _ (by rw [ho]; simp [Op.operands])) e
  · exact sim_call hE hr hb ho hρ e
  · refine sim_makeMap hE hr hb hid hm ho (fun x hx => hρ x ?_) e
    rw [ho]; simp [Op.operands, hx]
  · exact sim_lookup hE hr hb hid hm ho (hρ _ (by rw [ho]; simp [Op.operands])) (hρ _ (by rw [ho]; simp [Op.operands])) e
  · exact sim_mapUpdate hE hr hb hid hm (.inl ho) (hρ _ (by rw [ho]; simp [Op.operands])) (hρ _ (by rw [ho]; simp [Op.operands])) (hρ _ (by rw [ho]; simp [Op.operands])) e
  · exact sim_mapUpdate hE hr hb hid hm (.inr ho) (hρ _ (by rw [ho]; simp [Op.operands])) (hρ _ (by rw [ho]; simp [Op.operands])) (hρ _ (by rw [ho]; simp [Op.operands])) e
  · cases e
end Go.Ev
