/-
  By an AI agent: a part of the proof of this claim; what is proved stands in the text YtjinlihckmgioaaGreatDoorMain.
-/
import Derived.Test.YtjinlihckmgioaaGreatDoorEvDef
set_option linter.unusedVariables false
set_option linter.unusedSimpArgs false
set_option linter.unusedSectionVars false
set_option linter.unusedVariables false
namespace Go.Ev
open Go

variable {α : Type}

theorem Tr.get_leaf (n : Nat) : (Tr.leaf : Tr α).get n = none := rfl
theorem Tr.get_node_zero (v : Option α) (l r : Tr α) : (Tr.node v l r).get 0 = v := rfl
theorem Tr.get_node_succ (v : Option α) (l r : Tr α) (k : Nat) :
    (Tr.node v l r).get (k + 1) = if k % 2 = 0 then l.get (k / 2) else r.get (k / 2) := by
  show @Bool.rec (fun _ => Option α) (r.get (Nat.div k 2)) (l.get (Nat.div k 2)) (Nat.beq (Nat.mod k 2) 0) = _
  have e : Nat.beq (Nat.mod k 2) 0 = decide (k % 2 = 0) := by
    show Nat.beq (k % 2) 0 = _
    rw [Bool.eq_iff_iff]; simp
  rw [e]
  by_cases h : k % 2 = 0
  · simp only [h, decide_true, if_true]; rfl
  · simp only [h, decide_false, if_false]; rfl

theorem Tr.set_leaf_zero (f : Nat) (x : Option α) : Tr.set (f + 1) (.leaf : Tr α) 0 x = .node x .leaf .leaf := rfl
theorem Tr.set_node_zero (f : Nat) (v : Option α) (l r : Tr α) (x : Option α) : Tr.set (f + 1) (.node v l r) 0 x = .node x l r := rfl
theorem Tr.set_leaf_succ (f k : Nat) (x : Option α) : Tr.set (f + 1) (.leaf : Tr α) (k + 1) x =
    if k % 2 = 0 then .node none (Tr.set f .leaf (k / 2) x) .leaf else .node none .leaf (Tr.set f .leaf (k / 2) x) := by
  show @Bool.rec (fun _ => Tr α) (.node none .leaf (Tr.set f .leaf (Nat.div k 2) x)) (.node none (Tr.set f .leaf (Nat.div k 2) x) .leaf) (Nat.beq (Nat.mod k 2) 0) = _
  have e : Nat.beq (Nat.mod k 2) 0 = decide (k % 2 = 0) := by
    show Nat.beq (k % 2) 0 = _
    rw [Bool.eq_iff_iff]; simp
  rw [e]
  by_cases h : k % 2 = 0
  · simp only [h, decide_true, if_true]; rfl
  · simp only [h, decide_false, if_false]; rfl
theorem Tr.set_node_succ (f k : Nat) (v : Option α) (l r : Tr α) (x : Option α) : Tr.set (f + 1) (.node v l r) (k + 1) x =
    if k % 2 = 0 then .node v (Tr.set f l (k / 2) x) r else .node v l (Tr.set f r (k / 2) x) := by
  show @Bool.rec (fun _ => Tr α) (.node v l (Tr.set f r (Nat.div k 2) x)) (.node v (Tr.set f l (Nat.div k 2) x) r) (Nat.beq (Nat.mod k 2) 0) = _
  have e : Nat.beq (Nat.mod k 2) 0 = decide (k % 2 = 0) := by
    show Nat.beq (k % 2) 0 = _
    rw [Bool.eq_iff_iff]; simp
  rw [e]
  by_cases h : k % 2 = 0
  · simp only [h, decide_true, if_true]; rfl
  · simp only [h, decide_false, if_false]; rfl

theorem Tr.get_set : ∀ (f : Nat) (t : Tr α) (n m : Nat) (x : Option α), n + 1 < 2 ^ f → (Tr.set f t n x).get m = if m = n then x else t.get m := by
  intro f
  induction f with
  | zero => intro t n m x h; simp at h
  | succ f ih =>
    intro t n m x h
    have hp : 2 ^ (f + 1) = 2 * 2 ^ f := by rw [Nat.pow_succ]; omega
    cases n with
    | zero =>
      cases t with
      | leaf =>
        rw [Tr.set_leaf_zero]
        cases m with
        | zero => simp [Tr.get_node_zero]
        | succ m => rw [Tr.get_node_succ]; simp [Tr.get_leaf]
      | node v l r =>
        rw [Tr.set_node_zero]
        cases m with
        | zero => simp [Tr.get_node_zero]
        | succ m => rw [Tr.get_node_succ, Tr.get_node_succ]; simp
    | succ k =>
      have hk : k / 2 + 1 < 2 ^ f := by omega
      cases t with
      | leaf =>
        rw [Tr.set_leaf_succ]
        cases m with
        | zero => split <;> simp [Tr.get_node_zero, Tr.get_leaf]
        | succ m =>
          split <;> rename_i he <;> rw [Tr.get_node_succ] <;> split <;> rename_i hm <;> (try simp only [ih _ _ _ _ hk, Tr.get_leaf]) <;> (repeat' split) <;> first | rfl | omega
      | node v l r =>
        rw [Tr.set_node_succ]
        cases m with
        | zero => split <;> simp [Tr.get_node_zero]
        | succ m =>
          rw [Tr.get_node_succ (k := m)]
          split <;> rename_i he <;> rw [Tr.get_node_succ] <;> split <;> rename_i hm <;> (try simp only [ih _ _ _ _ hk]) <;> (repeat' split) <;> first | rfl | omega

theorem Tr.puts_nil (t : Tr α) (n : Nat) : t.puts n [] = t := rfl
theorem Tr.puts_cons (t : Tr α) (n : Nat) (x : α) (xs : List α) : t.puts n (x :: xs) = (t.put n x).puts (n + 1) xs := rfl
theorem rdc_zero (t : Tr Value) (o : Nat) : rdc t o 0 = [] := rfl
theorem rdc_succ (t : Tr Value) (o n : Nat) : rdc t o (n + 1) = (match t.get o with | some v => v | none => psn) :: rdc t (o + 1) n := by
  show (@Option.rec Value (fun _ => Value) psn (fun v => v) (t.get o)) :: rdc t (o + 1) n = _
  cases t.get o <;> rfl
theorem Tr.get_put (t : Tr α) (n m : Nat) (x : α) (h : n + 1 < 2 ^ 40) : (t.put n x).get m = if m = n then some x else t.get m :=
  Tr.get_set dep t n m (some x) h
theorem Tr.get_del (t : Tr α) (n m : Nat) (h : n + 1 < 2 ^ 40) : (Tr.set dep t n none).get m = if m = n then none else t.get m :=
  Tr.get_set dep t n m none h

theorem Tr.get_puts : ∀ (xs : List α) (t : Tr α) (n m : Nat), n + xs.length < 2 ^ 40 →
    (t.puts n xs).get m = if n ≤ m ∧ m < n + xs.length then xs[m - n]? else t.get m := by
  intro xs
  induction xs with
  | nil => intro t n m h; simp only [Tr.puts_nil, Tr.puts_cons, List.length_nil]; split <;> first | rfl | omega
  | cons x xs ih =>
    intro t n m h
    simp only [List.length_cons] at h ⊢
    simp only [Tr.puts_nil, Tr.puts_cons]
    rw [ih _ _ _ (by omega), Tr.get_put _ _ _ _ (by omega)]
    by_cases hm : m = n
    · subst hm
      rw [if_neg (by omega), if_pos rfl, if_pos (by omega)]; simp
    · rw [if_neg hm]
      by_cases h1 : n + 1 ≤ m ∧ m < n + 1 + xs.length
      · rw [if_pos h1, if_pos (by omega)]
        have : m - n = (m - (n + 1)) + 1 := by omega
        rw [this, List.getElem?_cons_succ]
      · rw [if_neg h1, if_neg (by omega)]

theorem Tr.get_ofList (xs : List α) (m : Nat) (h : xs.length < 2 ^ 40) : (Tr.ofList xs).get m = xs[m]? := by
  unfold Tr.ofList
  rw [Tr.get_puts _ _ _ _ (by omega)]
  by_cases hm : m < xs.length
  · rw [if_pos (by omega)]; simp
  · rw [if_neg (by omega), Tr.get_leaf, List.getElem?_eq_none (by omega)]

/-! Results -/
theorem bnd_ok {α β : Type} {x : E α} {f : α → E β} {b : β} (h : bnd x f = .ok b) : ∃ a, x = .ok a ∧ f a = .ok b := by
  cases x with
  | ok a => exact ⟨a, rfl, h⟩
  | error e => simp [bnd] at h
theorem opt_ok {α : Type} {n : Nat} {x : Option α} {a : α} (h : opt n x = .ok a) : x = some a := by
  cases x with
  | some b => simp [opt] at h; rw [h]
  | none => simp [opt] at h
theorem chk_ok {α : Type} {n : Nat} {b : Bool} {x : E α} {a : α} (h : chk n b x = .ok a) : b = true ∧ x = .ok a := by
  cases b with
  | true => exact ⟨rfl, h⟩
  | false => simp [chk] at h
end Go.Ev
