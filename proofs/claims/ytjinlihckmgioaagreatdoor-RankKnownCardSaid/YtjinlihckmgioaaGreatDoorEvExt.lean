/-
  By an AI agent: a part of the proof of this claim; what is proved stands in the text YtjinlihckmgioaaGreatDoorMain.
-/
import Derived.Test.YtjinlihckmgioaaGreatDoorEvOp9
import GoSem.Extern.BytealgCompare
set_option linter.unusedVariables false
set_option linter.unusedSimpArgs false
set_option linter.unusedSectionVars false
set_option linter.unusedVariables false
set_option linter.unusedSimpArgs false
namespace Go.Ev
open Go

theorem cmpL_list : ∀ (as bs : List UInt8), cmpL as bs = match (List.range (min as.length bs.length)).find? (fun i => as[i]! != bs[i]!) with
    | some i => if as[i]! < bs[i]! then -1 else 1
    | none => if as.length < bs.length then -1 else if as.length > bs.length then 1 else 0
  | [], [] => rfl
  | [], _ :: _ => by simp [cmpL]
  | _ :: _, [] => by simp [cmpL]
  | a :: as, b :: bs => by
    rw [List.length_cons, List.length_cons, Nat.succ_min_succ, List.range_succ_eq_map, List.find?_cons]
    simp only [cmpL]
    cases hab : Nat.beq a.toNat b.toNat with
    | true =>
      have : a = b := UInt8.toNat_inj.1 (Nat.eq_of_beq_eq_true hab)
      subst this
      have ih := cmpL_list as bs
      simp only [ih, List.find?_map, Function.comp_def]
      have e0 : ((a :: as)[0]! != (a :: bs)[0]!) = false := by simp
      rw [e0]
      simp only [List.getElem!_cons_succ, Nat.succ_eq_add_one]
      cases List.find? (fun x => as[x]! != bs[x]!) (List.range (min as.length bs.length)) with
      | none => simp
      | some i => simp
    | false =>
      have hne : a ≠ b := fun h => by rw [h] at hab; simp at hab
      have e0 : ((a :: as)[0]! != (b :: bs)[0]!) = true := by simpa using hne
      rw [e0]
      simp only
      cases hlt : Nat.blt a.toNat b.toNat with
      | true =>
        have := blt_true hlt
        have : a < b := by rw [UInt8.lt_iff_toNat_lt]; exact this
        simp [this]
      | false =>
        have := blt_false hlt
        have : ¬ a < b := by rw [UInt8.lt_iff_toNat_lt]; omega
        simp [this]
theorem cmpL_eq (a b : ByteArray) : cmpL a.data.toList b.data.toList = Extern.BytealgCompare.cmp a b := by
  rw [cmpL_list]
  unfold Extern.BytealgCompare.cmp
  have h1 : ∀ (a : ByteArray) (i : Nat), a.data.toList[i]! = a[i]! := by
    intro a i
    by_cases h : i < a.size
    · rw [getElem!_pos a i h, getElem!_pos a.data.toList i (by simpa using h)]
      rfl
    · rw [getElem!_neg a i h, getElem!_neg a.data.toList i (by simpa using h)]
  simp only [h1]
  rfl
theorem ext_run {P : Program} {w : World} {μ : Mu} {args args' : List Value} {v : Value} (e : extC 1 args = .ok v) (ha : VRL μ args args') : ∃ v', VR μ v v' ∧ (Extern.BytealgCompare.compare args'.toArray).run P w = .ok v' w := by
  unfold extC at e
  split at e
  · rename_i a b hn
    simp only [Except.ok.injEq] at e; subst e
    cases ha with
    | cons h1 hs =>
      cases hs with
      | cons h2 hs =>
        cases hs
        cases h1; cases h2
        refine ⟨_, .int _ _, ?_⟩
        rw [cmpL_eq]
        change (do pure (goInt (Extern.BytealgCompare.cmp (← Extern.Bytes.bytesOf (.string a)) (← Extern.Bytes.bytesOf (.string b)))) : Sem Value).run P w = _
        simp [Extern.Bytes.bytesOf, goInt]
  · cases e
end Go.Ev
