/-
  By an AI agent: a part of the proof of this claim; what is proved stands in the text YtjinlihckmgioaaGreatDoorMain.
-/
import Derived.Test.YtjinlihckmgioaaGreatDoorEvC7
import Derived.Test.YtjinlihckmgioaaGreatDoorEvTabD
set_option linter.unusedVariables false
set_option linter.unusedSimpArgs false
set_option linter.unusedSectionVars false
set_option linter.unusedVariables false
namespace Go.Ev
open Go

theorem mkTD_ok {P : Program} {t : Nat} {d : TD} (h : mkTD P t = some d) : TyOk P t d := by
  unfold mkTD at h
  cases hu : P.underlying t with
  | none => rw [hu] at h; cases h
  | some dd =>
    cases hi : P.info? t with
    | none => rw [hu, hi] at h; cases h
    | some i =>
      rw [hu, hi] at h
      simp only at h
      cases hz : i.zero with
      | none => rw [hz] at h; cases h
      | some z =>
        rw [hz] at h
        simp only at h
        split at h
        · rename_i hc
          simp only [Option.some.injEq] at h
          subst h
          simp only [Bool.and_eq_true] at hc
          obtain ⟨⟨h1, h2⟩, h3⟩ := hc
          have h2 := Nat.eq_of_beq_eq_true h2
          have hzv : TD.zv { desc := dd, size := i.size, bytes := i.bytes, zero := z.cells.toList, eqs := eqsOf P t dd } = z := by
            unfold TD.zv
            simp only
            unfold zOk at h1
            split at h1
            · rw [h1]; simp [Value.cells]
            · cases h1
            all_goals first
              | (rw [Bool.not_eq_true'] at h1; rw [h1]; simp [Value.cells])
              | cases h1
          refine ⟨hu, ⟨i, hi, rfl, rfl, by rw [hz, hzv]⟩, by rw [hzv], h2, h3, fun hq => ?_⟩
          unfold eqsOf at hq
          split at hq
          · simpa using hq
          · cases hq
        · cases h

theorem mkFn_ok {P : Program} {ty : Tr TD} {f : Nat} {d : Fd} (h : mkFn P ty f = some d) : ∃ fn c, P.funcs[f]? = some fn ∧ (fn.name == "runtime.NumGoroutine") = false ∧ fn.body = some c ∧ d = { ntmps := fn.ntmps, results := fn.results.toList, body := toCd ty c } := by
  unfold mkFn at h
  cases hf : P.funcs[f]? with
  | none => rw [hf] at h; cases h
  | some fn =>
    rw [hf] at h
    simp only at h
    cases hb : fn.body with
    | none => rw [hb] at h; cases h
    | some c =>
      rw [hb] at h
      simp only at h
      split at h
      · rename_i hn
        simp only [Option.some.injEq] at h
        exact ⟨fn, c, rfl, hn, hb, by rw [← h]; unfold mkFd; rw [hb]⟩
      · cases h

theorem Tr.get_setO {α : Type} (t : Tr α) (n m : Nat) (x : Option α) (hn : n + 1 < 2 ^ 40) : (Tr.set dep t n x).get m = if m = n then x else t.get m := by
  cases x with
  | none => exact Tr.get_del t n m hn
  | some x => exact Tr.get_put t n m x hn

theorem Tr.get_putsO {α : Type} : ∀ (xs : List (Option α)) (t : Tr α) (n m : Nat), n + xs.length + 1 < 2 ^ 40 → (t.putsO n xs).get m = if n ≤ m ∧ m < n + xs.length then (xs[m - n]?).join else t.get m
  | [], t, n, m, h => by simp only [Tr.putsO, List.length_nil]; rw [if_neg (by omega)]
  | x :: xs, t, n, m, h => by
    simp only [List.length_cons] at h
    simp only [Tr.putsO, List.length_cons]
    rw [Tr.get_putsO xs _ _ _ (by omega), Tr.get_setO _ _ _ _ (by omega)]
    by_cases h1 : n + 1 ≤ m ∧ m < n + 1 + xs.length
    · rw [if_pos h1, if_pos (by omega)]
      rw [show m - n = (m - (n + 1)) + 1 by omega, List.getElem?_cons_succ]
    · rw [if_neg h1]
      by_cases h2 : m = n
      · subst h2; rw [if_pos rfl, if_pos (by omega)]; simp
      · rw [if_neg h2, if_neg (by omega)]

theorem tab_get {α : Type} {f : Nat → Option α} {n m : Nat} {x : α} (hn : n + 1 < 2 ^ 40) (h : (Tr.ofOpts ((List.range n).map f)).get m = some x) : f m = some x := by
  unfold Tr.ofOpts at h
  rw [Tr.get_putsO _ _ _ _ (by simp; omega)] at h
  split at h
  · rename_i hm
    simp only [List.length_map, List.length_range, Nat.zero_add] at hm
    simpa [hm.2] using h
  · cases h

/-- The environment of a program. -/
theorem envOk {P : Program} {En : Env} {n m : Nat} (hn : n + 1 < 2 ^ 40) (hm : m + 1 < 2 ^ 40) (hty : En.ty = Tr.ofOpts ((List.range n).map (mkTD P))) (hfn : En.fn = Tr.ofOpts ((List.range m).map (mkFn P En.ty))) (hmx : P.follows .mixedOrders = true)
    (hex : ∀ {f k}, En.ex.get f = some k → k = 1 ∧ ∃ fn, P.funcs[f]? = some fn ∧ (fn.name == "runtime.NumGoroutine") = false ∧ fn.body = none ∧ Extern.findNext fn = none ∧ Extern.find fn = some Extern.BytealgCompare.compare) : EnvOk P En :=
  ⟨fun {t d} h => mkTD_ok (tab_get hn (by rw [hty] at h; exact h)), fun {f d} h => mkFn_ok (tab_get hm (by rw [hfn] at h; exact h)), hmx, fun {f k} h => hex h⟩
end Go.Ev
