/-
  By an AI agent: a part of the proof of this claim; what is proved stands in the text YtjinlihckmgioaaGreatDoorMain.
-/
import Derived.Test.YtjinlihckmgioaaGreatDoorEvK1
set_option linter.unusedVariables false
set_option linter.unusedSimpArgs false
set_option linter.unusedSectionVars false
set_option linter.unusedVariables false
set_option linter.unusedSimpArgs false
set_option linter.unusedSectionVars false
namespace Go.Ev
open Go

section
variable {En : Env} {tm : Tr Value} {o : Oper}
theorem cl0 (h : clOf En.ty o.op = 0) : Pu fun id h => cop En id tm h o := by
  unfold clOf at h
  unfold cop
  split at h <;> rename_i ho <;> (try (exfalso; exact absurd h (by decide))) <;> (try rw [ho]) <;> (try simp only [ho])
  · exact Pu.val _
  · exact Pu.val _
  · exact pu_pick
  · exact pu_build
  · exact pu_nilCheck
  · exact pu_binOp
  · exact pu_unOp
  · exact pu_makeFunc
  · exact pu_slice
  · exact pu_fieldAddr
  · exact pu_field
  · exact pu_indexAddr
  · exact pu_index
  · exact pu_extract
  · split at h
    · split at h <;> exact absurd h (by decide)
    · exact absurd h (by decide)
  · rename_i c
    unfold c_call
    have key : ∀ b, (b = .len ∨ b = .cap ∨ b = .min ∨ b = .max) → c.callee = .builtin b → Pu fun id h => c_call En id tm h c := by
      intro b hb hc
      unfold c_call
      simp only [hc]
      unfold builtinC
      refine Pu.bnd fun t0 => Pu.bnd fun d => ?_
      generalize d.desc = dd
      generalize List.map (evo tm) c.args.toList = args
      rcases hb with rfl | rfl | rfl | rfl
      · cases args with
        | nil => exact Pu.err _
        | cons x xs => cases xs with
          | nil => cases dd <;> cases x <;> first | exact Pu.err _ | exact Pu.val _
          | cons _ _ => exact Pu.err _
      · cases args with
        | nil => exact Pu.err _
        | cons x xs => cases xs with
          | nil =>
            cases dd <;> cases x <;> (try exact Pu.err _)
            rename_i a _ _
            cases a with
            | none => exact Pu.val _
            | some a =>
              obtain ⟨bl, of, sp⟩ := a
              cases sp with
              | none => exact Pu.val _
              | some e => exact Pu.err _
          | cons _ _ => exact Pu.err _
      · cases args with
        | nil => exact Pu.err _
        | cons x xs => cases xs with
          | nil => cases x <;> exact Pu.err _
          | cons y ys => cases ys with
            | nil => cases x <;> cases y <;> first | exact Pu.err _ | exact Pu.chk (Pu.val _)
            | cons _ _ => cases x <;> cases y <;> exact Pu.err _
      · cases args with
        | nil => exact Pu.err _
        | cons x xs => cases xs with
          | nil => cases x <;> exact Pu.err _
          | cons y ys => cases ys with
            | nil => cases x <;> cases y <;> first | exact Pu.err _ | exact Pu.chk (Pu.val _)
            | cons _ _ => cases x <;> cases y <;> exact Pu.err _
    split at h <;> rename_i hc
    · exact key _ (by simp) hc
    · exact key _ (by simp) hc
    · exact key _ (by simp) hc
    · exact key _ (by simp) hc
    · exact absurd h (by decide)

theorem cl1 (h : clOf En.ty o.op = 1) : Rd fun id h => cop En id tm h o := by
  unfold clOf at h
  unfold cop
  split at h <;> rename_i ho <;> (try (exfalso; exact absurd h (by decide))) <;> (try rw [ho]) <;> (try simp only [ho])
  · exact rd_load
  · refine rd_convert fun td htd => ?_
    rw [htd] at h
    simp only at h
    split at h
    · rename_i k hk; exact .inl ⟨k, hk⟩
    · rename_i hk; exact .inr hk
    · exact absurd h (by decide)
  · split at h <;> exact absurd h (by decide)

theorem cl2 (h : clOf En.ty o.op = 2) : Al fun id h => cop En id tm h o := by
  unfold clOf at h
  unfold cop
  split at h <;> rename_i ho <;> (try (exfalso; exact absurd h (by decide))) <;> (try rw [ho]) <;> (try simp only [ho])
  · split at h
    · split at h <;> exact absurd h (by decide)
    · exact absurd h (by decide)
  · exact al_alloc
  · exact al_box
  · exact al_buildSlice
  · exact al_makeSlice
  · exact al_range
  · split at h <;> exact absurd h (by decide)

theorem cl_lt (ty : Tr TD) (op : Op) : clOf ty op = 0 ∨ clOf ty op = 1 ∨ clOf ty op = 2 ∨ clOf ty op = 3 := by
  unfold clOf
  (repeat' split) <;> simp
end

/-! What is laid down of a region -/
theorem masks_len : ∀ (l : List Oper) (M : List Nat), (masks l M).length = M.length + l.length
  | [], M => by simp [masks]
  | o :: r, M => by rw [masks, masks_len r]; simp; omega
theorem masks_pre : ∀ (l : List Oper) (M : List Nat) (i : Nat), i < M.length → (masks l M).getD i 0 = M.getD i 0
  | [], M, i, h => rfl
  | o :: r, M, i, h => by
    rw [masks, masks_pre r _ _ (by simp; omega)]
    simp [List.getD_eq_getElem?_getD, List.getElem?_append_left h]
theorem masks_at : ∀ (l : List Oper) (M : List Nat) (k : Nat) (o : Oper), l[k]? = some o → ∃ M1 : List Nat, M1.length = M.length + k ∧ (masks l M).getD (M.length + k) 0 = maskOf M1 o ∧ ∀ i, i < M.length + k → M1.getD i 0 = (masks l M).getD i 0
  | [], M, k, o, h => by simp at h
  | x :: r, M, 0, o, h => by
    simp only [List.getElem?_cons_zero, Option.some.injEq] at h; subst h
    refine ⟨M, by simp, ?_, fun i hi => ?_⟩
    · rw [masks, masks_pre _ _ _ (by simp)]
      simp [List.getD_eq_getElem?_getD]
    · exact (masks_pre _ _ _ (by simpa using hi)).symm
  | x :: r, M, k + 1, o, h => by
    obtain ⟨M1, h1, h2, h3⟩ := masks_at r (M ++ [maskOf M x]) k o (by simpa using h)
    simp only [List.length_append, List.length_singleton] at h1 h2 h3
    refine ⟨M1, by omega, ?_, fun i hi => ?_⟩
    · rw [masks, show M.length + (k + 1) = M.length + 1 + k by omega]; exact h2
    · rw [masks]; exact h3 i (by omega)

theorem maskOf_bit (M : List Nat) (o : Oper) (x : Nat) (h : (maskOf M o).testBit x = true) : ∃ e ∈ o.after.toList, Region.binds .any e = true ∧ (x = e.on ∨ (M.getD e.on 0).testBit x = true) := by
  unfold maskOf at h
  have key : ∀ (l : List Edge) (acc : Nat), (l.foldl (fun acc e => match Region.binds .any e with | true => Nat.lor acc (Nat.lor (Nat.pow 2 e.on) (M.getD e.on 0)) | false => acc) acc).testBit x = true →
      acc.testBit x = true ∨ ∃ e ∈ l, Region.binds .any e = true ∧ (x = e.on ∨ (M.getD e.on 0).testBit x = true) := by
    intro l
    induction l with
    | nil => intro acc h; exact .inl h
    | cons e l ih =>
      intro acc h
      simp only [List.foldl_cons] at h
      rcases ih _ h with h | ⟨e', he', h'⟩
      · cases hb : Region.binds .any e with
        | false => rw [hb] at h; exact .inl h
        | true =>
          rw [hb] at h
          simp only at h
          change (acc ||| (2 ^ e.on ||| M.getD e.on 0)).testBit x = true at h
          rw [Nat.testBit_or, Nat.testBit_or, Nat.testBit_two_pow] at h
          simp only [Bool.or_eq_true, decide_eq_true_eq] at h
          rcases h with h | h | h
          · exact .inl h
          · exact .inr ⟨e, by simp, hb, .inl h.symm⟩
          · exact .inr ⟨e, by simp, hb, .inr h⟩
      · exact .inr ⟨e', by simp [he'], h'⟩
  rcases key _ _ h with h | h
  · simp at h
  · exact h

structure RegOk (ty : Tr TD) (ops : Array Oper) (M : List Nat) : Prop where
  edge : ∀ {j o}, ops[j]? = some o → ∀ e ∈ o.after, Region.binds .any e = true → e.on < j
  pair : ∀ {i j p o}, i < j → ops[i]? = some p → ops[j]? = some o → pairOk ty M ops i j p o = true
  mask : ∀ {j o x}, ops[j]? = some o → ordB M x j = true → ∃ e ∈ o.after, Region.binds .any e = true ∧ (x = e.on ∨ ordB M x e.on = true)

theorem regOk_spec {ty : Tr TD} {ops : Array Oper} (h : regOk ty ops = true) : RegOk ty ops (masks ops.toList []) := by
  unfold regOk at h
  rw [List.all_eq_true] at h
  have h1 : ∀ {j o}, ops[j]? = some o → opOk ty (masks ops.toList []) ops j o = true := by
    intro j o ho
    have := h j (List.mem_range.2 (Array.getElem?_eq_some_iff.1 ho).1)
    rw [ho] at this
    exact this
  have hedge : ∀ {j o}, ops[j]? = some o → ∀ e ∈ o.after, Region.binds .any e = true → e.on < j := by
    intro j o ho e he hb
    have := h1 ho
    unfold opOk at this
    rw [Bool.and_eq_true, List.all_eq_true] at this
    have := this.1 e (by simpa using he)
    rw [hb] at this
    exact blt_true this
  refine ⟨hedge, fun {i j p o} hij hp ho => ?_, fun {j o x} ho hx => ?_⟩
  · have := h1 ho
    unfold opOk at this
    rw [Bool.and_eq_true] at this
    have := (List.all_eq_true.1 this.2) i (List.mem_range.2 hij)
    rw [hp] at this
    exact this
  · unfold ordB at hx
    obtain ⟨M1, g1, g2, g3⟩ := masks_at ops.toList [] j o (by rw [Array.getElem?_toList]; exact ho)
    simp only [List.length_nil, Nat.zero_add] at g1 g2 g3
    rw [g2] at hx
    obtain ⟨e, he, hb, hh⟩ := maskOf_bit M1 o x hx
    have he' : e ∈ o.after := by simpa using he
    refine ⟨e, he', hb, hh.imp id fun h => ?_⟩
    unfold ordB
    rw [← g3 e.on (hedge ho e he' hb)]
    exact h

theorem RegOk.lt {ty : Tr TD} {ops : Array Oper} {M : List Nat} (hM : RegOk ty ops M) : ∀ (j : Nat) {o : Oper} {x : Nat}, ops[j]? = some o → ordB M x j = true → x < j := by
  intro j
  induction j using Nat.strongRecOn with
  | _ j ih =>
    intro o x ho hx
    obtain ⟨e, he, hb, h⟩ := hM.mask ho hx
    have hlt := hM.edge ho e he hb
    rcases h with rfl | h
    · exact hlt
    · have hget : ∃ p, ops[e.on]? = some p := ⟨_, Array.getElem?_eq_getElem (by have := (Array.getElem?_eq_some_iff.1 ho).1; omega)⟩
      obtain ⟨p, hp⟩ := hget
      exact Nat.lt_trans (ih e.on hlt hp h) hlt

/-! The trace -/
def stAt (tr : List T3) (fin : St) (j : Nat) : St := match tr[j]? with | some t => t.s | none => fin

theorem hpAt_eq (tr : List T3) (fin : St) (j : Nat) : hpAt tr fin j = (stAt tr fin j).hp := by
  unfold hpAt stAt; cases tr[j]? <;> rfl

theorem opsT_of_opsW {En : Env} {ev : Evl} {ops : List Oper} : ∀ (rest : List Oper) (id : Nat) {s s' : St}, opsW En ev ops id rest s = .ok s' → ∃ tr, opsT En ev ops id rest s = .ok (tr, s')
  | [], id, s, s', e => by simp only [opsW, Except.ok.injEq] at e; subst e; exact ⟨[], rfl⟩
  | o :: r, id, s, s', e => by
    simp only [opsW] at e
    obtain ⟨⟨wd, v, s1⟩, h1, e1⟩ := bnd_ok e
    obtain ⟨tr, htr⟩ := opsT_of_opsW r _ e1
    exact ⟨⟨s, wd, v⟩ :: tr, by simp only [opsT, h1, bnd, htr]⟩

theorem opsT_spec {En : Env} {ev : Evl} {ops : List Oper} : ∀ (rest : List Oper) (id : Nat) {s sf : St} {tr : List T3}, opsT En ev ops id rest s = .ok (tr, sf) →
    tr.length = rest.length ∧ stAt tr sf 0 = s ∧ ∀ i o, rest[i]? = some o → ∃ t, tr[i]? = some t ∧ t.s = stAt tr sf i ∧ opW En ev ops (id + i) o t.s = .ok (t.wd, t.v, stAt tr sf (i + 1))
  | [], id, s, sf, tr, e => by
    simp only [opsT, Except.ok.injEq, Prod.mk.injEq] at e
    obtain ⟨rfl, rfl⟩ := e
    exact ⟨rfl, rfl, fun i o h => by simp at h⟩
  | o :: r, id, s, sf, tr, e => by
    simp only [opsT] at e
    obtain ⟨⟨wd, v, s1⟩, h1, e1⟩ := bnd_ok e
    obtain ⟨⟨tr1, sf1⟩, h2, e2⟩ := bnd_ok e1
    simp only [Except.ok.injEq, Prod.mk.injEq] at e2
    obtain ⟨rfl, rfl⟩ := e2
    obtain ⟨g1, g2, g3⟩ := opsT_spec r (id + 1) h2
    refine ⟨by simp [g1], by simp [stAt], fun i p hp => ?_⟩
    cases i with
    | zero =>
      simp only [List.getElem?_cons_zero, Option.some.injEq] at hp; subst hp
      refine ⟨⟨s, wd, v⟩, by simp, by simp [stAt], ?_⟩
      have : stAt (⟨s, wd, v⟩ :: tr1) sf1 (0 + 1) = s1 := by have g2 : stAt tr1 sf1 0 = s1 := g2; rw [← g2]; simp [stAt]
      rw [this]; exact h1
    | succ i =>
      obtain ⟨t, k1, k2, k3⟩ := g3 i p (by simpa using hp)
      have e1 : ∀ j, stAt (⟨s, wd, v⟩ :: tr1) sf1 (j + 1) = stAt tr1 sf1 j := fun j => by simp [stAt]
      exact ⟨t, by simpa using k1, by rw [e1]; exact k2, by rw [e1, show id + (i + 1) = id + 1 + i by omega]; exact k3⟩

theorem veq0_eq {a b : Value} (h : veq0 a b = true) : a = b := by
  unfold veq0 at h
  split at h
  · rw [beq_iff_eq] at h; rw [h]
  · simp only [Bool.and_eq_true, eqF_eq, beq_iff_eq] at h
    rw [sameK_eq h.1, h.2]
  · rw [beq_iff_eq] at h
    congr 1; apply ByteArray.ext; apply Array.ext'; exact h
  · rw [beq_iff_eq] at h; rw [h]
  · simp only [Bool.and_eq_true, beq_iff_eq] at h
    obtain ⟨⟨h1, h2⟩, h3⟩ := h
    rw [h1, Nat.eq_of_beq_eq_true h2, Nat.eq_of_beq_eq_true h3]
  · rw [beq_iff_eq] at h; rw [h]
  · rfl
  · rfl
  · exact absurd h (by decide)
theorem veq0s_eq : ∀ {a b : List Value}, veq0s a b = true → a = b
  | [], [], _ => rfl
  | x :: xs, y :: ys, h => by
    simp only [veq0s, Bool.and_eq_true] at h
    rw [veq0_eq h.1, veq0s_eq h.2]
  | [], _ :: _, h => by simp [veq0s] at h
  | _ :: _, [], h => by simp [veq0s] at h
theorem veq1_eq {a b : Value} (h : veq1 a b = true) : a = b := by
  unfold veq1 at h
  split at h
  · simp only [Bool.and_eq_true] at h
    obtain ⟨⟨h1, h2⟩, h3⟩ := h
    rw [Nat.eq_of_beq_eq_true h1, Array.ext' (veq0s_eq h2), Array.ext' (veq0s_eq h3)]
  · exact veq0_eq h
theorem veq1s_eq : ∀ {a b : List Value}, veq1s a b = true → a = b
  | [], [], _ => rfl
  | x :: xs, y :: ys, h => by
    simp only [veq1s, Bool.and_eq_true] at h
    rw [veq1_eq h.1, veq1s_eq h.2]
  | [], _ :: _, h => by simp [veq1s] at h
  | _ :: _, [], h => by simp [veq1s] at h
theorem veqB_eq {a b : Value} (h : veqB a b = true) : a = b := by
  unfold veqB at h
  split at h
  · congr 1; apply Array.ext'; exact veq1s_eq h
  · exact veq1_eq h
end Go.Ev
