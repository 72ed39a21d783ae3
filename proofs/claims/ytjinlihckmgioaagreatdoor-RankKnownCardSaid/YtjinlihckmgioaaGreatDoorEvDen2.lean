/-
  By an AI agent: a part of the proof of this claim; what is proved stands in the text YtjinlihckmgioaaGreatDoorMain.
-/
import Derived.Test.YtjinlihckmgioaaGreatDoorEvDen
set_option linter.unusedVariables false
set_option linter.unusedSimpArgs false
set_option linter.unusedSectionVars false
set_option linter.unusedVariables false
set_option linter.unusedSimpArgs false
namespace Go.Ev
open Go

theorem evo_put (tm : Tr Value) (d t : Nat) (v : Value) (hd : d + 1 < 2 ^ 40) : evo (tm.put d v) (.tmp t) = if t = d then v else evo tm (.tmp t) := by
  simp only [evo, Tr.get_put _ _ _ _ hd]
  by_cases h : t = d <;> simp [h]

theorem KnA.put {m : AL} {tm : Tr Value} (hm : KnA m tm) {d : Nat} {v : Value} (hd : d + 1 < 2 ^ 40) : KnA ((d, v) :: m) (tm.put d v) := by
  intro t u h
  rw [evo_put _ _ _ _ hd]
  unfold lookA at h
  cases hb : Nat.beq d t with
  | true =>
    rw [hb] at h
    have := Nat.eq_of_beq_eq_true hb
    simp only [Option.some.injEq] at h
    rw [if_pos this.symm, h]
  | false =>
    rw [hb] at h
    rw [if_neg (fun e => by rw [e] at hb; simp at hb)]
    exact hm t u h

theorem rdK_ok {R : Type} {m : AL} {tm : Tr Value} (hm : KnA m tm) {x : Operand} {k : Value → E R} {r : R} (e : rdK m x k = .ok r) : k (evo tm x) = .ok r := by
  cases x with
  | tmp t =>
    simp only [rdK] at e
    cases hl : lookA m t with
    | none => rw [hl] at e; cases e
    | some v => rw [hl] at e; rw [hm t v hl]; exact e
  | const c =>
    simp only [rdK] at e
    simp only [evo]
    cases hp : plainV c <;> rw [hp] at e <;> exact e
  | global g => exact e
  | func f => exact e

theorem rdKs_ok {R : Type} {m : AL} {tm : Tr Value} (hm : KnA m tm) : ∀ {xs : List Operand} {k : List Value → E R} {r : R}, rdKs m xs k = .ok r → k (xs.map (evo tm)) = .ok r
  | [], k, r, e => e
  | x :: xs, k, r, e => by
    simp only [rdKs] at e
    have h1 := rdK_ok hm e
    exact rdKs_ok hm (k := fun vs => k (evo tm x :: vs)) h1

theorem pow40b : maxCnt + 1 < 2 ^ 40 := by decide

theorem resA_ok {m : AL} {tm : Tr Value} (hm : KnA m tm) : ∀ {xs : List Operand} {m' : AL}, resA m xs = some m' → (∀ t, t ∈ m'.map (·.1) → evo (tmOf m') (.tmp t) = evo tm (.tmp t)) ∧ (∀ t, .tmp t ∈ xs → t ∈ m'.map (·.1))
  | [], m', e => by
    simp only [resA, Option.some.injEq] at e
    subst e
    exact ⟨fun t h => by simp at h, fun t h => by simp at h⟩
  | x :: xs, m', e => by
    cases x with
    | tmp t =>
      simp only [resA] at e
      split at e
      · rename_i v l h1 h2 h3
        simp only [Option.some.injEq] at e
        subst e
        obtain ⟨g1, g2⟩ := resA_ok hm h3
        have h2 := blt_true h2
        have hp := pow40b
        refine ⟨fun u hu => ?_, fun u hu => ?_⟩
        · simp only [tmOf]
          rw [evo_put _ _ _ _ (by omega)]
          by_cases hut : u = t
          · rw [if_pos hut, hut, hm t v h1]
          · rw [if_neg hut]
            refine g1 u ?_
            simp only [List.map_cons, List.mem_cons] at hu
            exact hu.resolve_left hut
        · simp only [List.map_cons, List.mem_cons]
          rcases List.mem_cons.1 hu with h | h
          · left; injection h
          · right; exact g2 u h
      · cases e
    | const c =>
      obtain ⟨g1, g2⟩ := resA_ok (xs := xs) hm (by simpa only [resA] using e)
      exact ⟨g1, fun t h => g2 t (by simpa using h)⟩
    | global c =>
      obtain ⟨g1, g2⟩ := resA_ok (xs := xs) hm (by simpa only [resA] using e)
      exact ⟨g1, fun t h => g2 t (by simpa using h)⟩
    | func c =>
      obtain ⟨g1, g2⟩ := resA_ok (xs := xs) hm (by simpa only [resA] using e)
      exact ⟨g1, fun t h => g2 t (by simpa using h)⟩

theorem resA_evo {m m' : AL} {tm : Tr Value} (hm : KnA m tm) {xs : List Operand} (e : resA m xs = some m') : ∀ x ∈ xs, evo (tmOf m') x = evo tm x := by
  intro x hx
  obtain ⟨g1, g2⟩ := resA_ok hm e
  cases x with
  | tmp t => exact g1 t (g2 t hx)
  | _ => rfl

theorem map_evo {tm tm' : Tr Value} {xs : List Operand} (h : ∀ x ∈ xs, evo tm x = evo tm' x) : xs.map (evo tm) = xs.map (evo tm') := List.map_congr_left h

/-- An operation looks at its operands alone. -/
theorem cop_ext {En : Env} {id : Nat} {h : Hp} {tm tm' : Tr Value} {o : Oper} (hx : ∀ x ∈ o.op.operands.toList, evo tm x = evo tm' x) : cop En id tm h o = cop En id tm' h o := by
  unfold cop
  split <;> first | rfl | (rename_i ho; rw [ho] at hx)
  · rw [hx _ (by simp [Op.operands])]
  · rw [hx _ (by simp [Op.operands])]
  · unfold c_pick; rw [hx _ (by simp [Op.operands]), hx _ (by simp [Op.operands]), hx _ (by simp [Op.operands])]
  · unfold c_box; rw [hx _ (by simp [Op.operands])]
  · rename_i t parts
    unfold c_build
    have : (parts.toList.map fun (p : Nat × Operand) => (p.1, evo tm p.2)) = parts.toList.map fun (p : Nat × Operand) => (p.1, evo tm' p.2) :=
      List.map_congr_left fun p hp => by rw [hx p.2 (by simp only [Op.operands, List.mem_map]; exact ⟨p, hp, rfl⟩)]
    simp only [this]
  · rename_i t n parts
    unfold c_buildSlice
    have : (parts.toList.map fun (p : Nat × Operand) => (p.1, evo tm p.2)) = parts.toList.map fun (p : Nat × Operand) => (p.1, evo tm' p.2) :=
      List.map_congr_left fun p hp => by rw [hx p.2 (by simp only [Op.operands, List.mem_map]; exact ⟨p, hp, rfl⟩)]
    simp only [this]
  · unfold c_load; rw [hx _ (by simp [Op.operands])]
  · unfold c_store; rw [hx _ (by simp [Op.operands]), hx _ (by simp [Op.operands])]
  · unfold c_nilCheck; rw [hx _ (by simp [Op.operands])]
  · unfold c_binOp; rw [hx _ (by simp [Op.operands]), hx _ (by simp [Op.operands])]
  · unfold c_unOp; rw [hx _ (by simp [Op.operands])]
  · unfold c_convert; rw [hx _ (by simp [Op.operands])]
  · rename_i fn first captured
    unfold c_makeFunc
    rw [map_evo (xs := first.toList) (fun x hx' => hx x (by simp [Op.operands] at hx' ⊢; exact .inl hx')), map_evo (xs := captured.toList) (fun x hx' => hx x (by simp [Op.operands] at hx' ⊢; exact .inr hx'))]
  · unfold c_makeSlice; rw [hx _ (by simp [Op.operands]), hx _ (by simp [Op.operands])]
  · rename_i t x lo hi mx
    unfold c_slice
    have h1 : lo.map (evo tm) = lo.map (evo tm') := by cases lo with | none => rfl | some y => simp only [Option.map_some]; rw [hx y (by simp [Op.operands])]
    have h2 : hi.map (evo tm) = hi.map (evo tm') := by cases hi with | none => rfl | some y => simp only [Option.map_some]; rw [hx y (by simp [Op.operands])]
    have h3 : mx.map (evo tm) = mx.map (evo tm') := by cases mx with | none => rfl | some y => simp only [Option.map_some]; rw [hx y (by simp [Op.operands])]
    rw [h1, h2, h3, hx x (by simp [Op.operands])]
  · unfold c_fieldAddr; rw [hx _ (by simp [Op.operands])]
  · unfold c_field; rw [hx _ (by simp [Op.operands])]
  · unfold c_indexAddr; rw [hx _ (by simp [Op.operands]), hx _ (by simp [Op.operands])]
  · unfold c_index; rw [hx _ (by simp [Op.operands]), hx _ (by simp [Op.operands])]
  · unfold c_range; rw [hx _ (by simp [Op.operands])]
  · unfold c_next; rw [hx _ (by simp [Op.operands])]
  · unfold c_extract; rw [hx _ (by simp [Op.operands])]
  · rename_i c
    unfold c_call
    have ha : c.args.toList.map (evo tm) = c.args.toList.map (evo tm') := map_evo fun x hx' => hx x (by simp [Op.operands, Call.operands] at hx' ⊢; exact .inr hx')
    rw [ha]
    cases hc : c.callee with
    | value f => simp only; rw [hx f (by simp [Op.operands, Call.operands, hc])]
    | _ => rfl
  · rename_i t r
    unfold c_makeMap
    cases r with
    | none => rfl
    | some x => simp only; rw [hx x (by simp [Op.operands])]
  · unfold c_lookup; rw [hx _ (by simp [Op.operands]), hx _ (by simp [Op.operands])]
  · unfold c_mapUpdate; rw [hx _ (by simp [Op.operands]), hx _ (by simp [Op.operands]), hx _ (by simp [Op.operands])]
  · unfold c_mapUpdate; rw [hx _ (by simp [Op.operands]), hx _ (by simp [Op.operands]), hx _ (by simp [Op.operands])]

theorem cop_op (En : Env) (id : Nat) (tm : Tr Value) (h : Hp) (o : Oper) : cop En id tm h o = cop En id tm h (oOf o.op) := rfl
end Go.Ev
