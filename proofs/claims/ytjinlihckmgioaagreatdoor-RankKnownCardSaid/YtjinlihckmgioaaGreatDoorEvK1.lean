/-
  By an AI agent: a part of the proof of this claim; what is proved stands in the text YtjinlihckmgioaaGreatDoorMain.
-/
import Derived.Test.YtjinlihckmgioaaGreatDoorEvC4
set_option linter.unusedVariables false
set_option linter.unusedSimpArgs false
set_option linter.unusedSectionVars false
set_option linter.unusedVariables false
set_option linter.unusedSimpArgs false
set_option linter.unusedSectionVars false
namespace Go.Ev
open Go

/-- It neither looks at the heap nor turns it. -/
def Pu (F : Nat → Hp → E Rs) : Prop := ∀ id h rs, F id h = .ok rs → ∃ v, rs = .val v h ∧ ∀ id' h', F id' h' = .ok (.val v h')
theorem Pu.val (v : Value) : Pu fun _ h => .ok (.val v h) := fun id h rs e => by simp only [Except.ok.injEq] at e; exact ⟨v, e.symm, fun _ _ => rfl⟩
theorem Pu.err (n : Nat) : Pu fun _ h => .error n := fun id h rs e => by cases e
theorem Pu.bnd {α : Type} {x : E α} {F : α → Nat → Hp → E Rs} (hF : ∀ a, Pu (F a)) : Pu fun id h => bnd x fun a => F a id h := fun id h rs e => by
  obtain ⟨a, ha, e1⟩ := bnd_ok e
  obtain ⟨v, hv, hh⟩ := hF a id h rs e1
  exact ⟨v, hv, fun id' h' => by subst ha; exact hh id' h'⟩
theorem Pu.chk {n : Nat} {b : Bool} {F : Nat → Hp → E Rs} (hF : Pu F) : Pu fun id h => chk n b (F id h) := fun id h rs e => by
  obtain ⟨hb, e1⟩ := chk_ok e
  obtain ⟨v, hv, hh⟩ := hF id h rs e1
  exact ⟨v, hv, fun id' h' => by subst hb; exact hh id' h'⟩
theorem Pu.ite {c : Prop} [Decidable c] {F G : Nat → Hp → E Rs} (hF : Pu F) (hG : Pu G) : Pu fun id h => if c then F id h else G id h := by
  by_cases hc : c
  · simp only [hc, if_true]; exact hF
  · simp only [hc, if_false]; exact hG

/-- It looks at blocks, and turns none. -/
def Rd (F : Nat → Hp → E Rs) : Prop := ∀ id h rs, F id h = .ok rs → ∃ v, rs = .val v h ∧ ∀ id' h', (∀ b ob, h.obs.get b = some ob → h'.obs.get b = some ob) → F id' h' = .ok (.val v h')
theorem Pu.rd {F : Nat → Hp → E Rs} (h : Pu F) : Rd F := fun id hp rs e => let ⟨v, a, b⟩ := h id hp rs e; ⟨v, a, fun id' h' _ => b id' h'⟩
theorem Rd.bnd {α : Type} {x : E α} {F : α → Nat → Hp → E Rs} (hF : ∀ a, x = .ok a → Rd (F a)) : Rd fun id h => bnd x fun a => F a id h := fun id h rs e => by
  obtain ⟨a, ha, e1⟩ := bnd_ok e
  obtain ⟨v, hv, hh⟩ := hF a ha id h rs e1
  exact ⟨v, hv, fun id' h' => by subst ha; exact hh id' h'⟩
theorem getBlk_ext {h h' : Hp} (hx : ∀ b ob, h.obs.get b = some ob → h'.obs.get b = some ob) {b : Nat} {k : Blk} (e : getBlk h b = .ok k) : getBlk h' b = .ok k := by
  unfold getBlk; rw [hx b _ (getBlk_ok e)]
theorem rd_ext {h h' : Hp} (hx : ∀ b ob, h.obs.get b = some ob → h'.obs.get b = some ob) {b o n : Nat} {cs : List Value} (e : rd h b o n = .ok cs) : rd h' b o n = .ok cs := by
  unfold rd at e ⊢
  obtain ⟨k, hk, e1⟩ := bnd_ok e
  rw [getBlk_ext hx hk]; exact e1
theorem Rd.rd {b o n : Nat} {F : List Value → Nat → Hp → E Rs} (hF : ∀ a, Pu (F a)) : Rd fun id h => Ev.bnd (Ev.rd h b o n) fun a => F a id h := fun id h rs e => by
  obtain ⟨a, ha, e1⟩ := bnd_ok e
  obtain ⟨v, hv, hh⟩ := hF a id h rs e1
  exact ⟨v, hv, fun id' h' hx => by show Ev.bnd (Ev.rd h' b o n) _ = _; rw [rd_ext hx ha]; exact hh id' h'⟩
theorem Rd.blk {b : Nat} {F : Blk → Nat → Hp → E Rs} (hF : ∀ a, Pu (F a)) : Rd fun id h => Ev.bnd (getBlk h b) fun a => F a id h := fun id h rs e => by
  obtain ⟨a, ha, e1⟩ := bnd_ok e
  obtain ⟨v, hv, hh⟩ := hF a id h rs e1
  exact ⟨v, hv, fun id' h' hx => by show Ev.bnd (getBlk h' b) _ = _; rw [getBlk_ext hx ha]; exact hh id' h'⟩

/-- It lays one block. -/
def Al (F : Nat → Hp → E Rs) : Prop := ∀ id h rs, F id h = .ok rs → ∃ v ob, rs = .val v (newAt h id ob) ∧ famOf ob = 0 ∧ ∀ h', F id h' = .ok (.val v (newAt h' id ob))
theorem Al.new {G : Nat → Value} {ob : Ob} (hf : famOf ob = 0) : Al fun id h => .ok (.val (G id) (newAt h id ob)) := fun id h rs e => by
  simp only [Except.ok.injEq] at e; exact ⟨G id, ob, e.symm, hf, fun _ => rfl⟩
theorem Al.err (n : Nat) : Al fun _ h => .error n := fun id h rs e => by cases e
theorem Al.bnd {α : Type} {x : E α} {F : α → Nat → Hp → E Rs} (hF : ∀ a, x = .ok a → Al (F a)) : Al fun id h => bnd x fun a => F a id h := fun id h rs e => by
  obtain ⟨a, ha, e1⟩ := bnd_ok e
  obtain ⟨v, ob, hv, hf, hh⟩ := hF a ha id h rs e1
  exact ⟨v, ob, hv, hf, fun h' => by subst ha; exact hh h'⟩
theorem Al.chk {n : Nat} {b : Bool} {F : Nat → Hp → E Rs} (hF : Al F) : Al fun id h => chk n b (F id h) := fun id h rs e => by
  obtain ⟨hb, e1⟩ := chk_ok e
  obtain ⟨v, ob, hv, hf, hh⟩ := hF id h rs e1
  exact ⟨v, ob, hv, hf, fun h' => by subst hb; exact hh h'⟩

theorem mkBlk_fam {vs : List Value} {t : TypeId} {ob : Ob} (e : mkBlk vs t = .ok ob) : famOf ob = 0 := by
  unfold mkBlk at e
  obtain ⟨_, e⟩ := chk_ok e
  obtain ⟨_, e⟩ := chk_ok e
  simp only [Except.ok.injEq] at e; subst e; rfl

section
variable {En : Env} {tm : Tr Value}
theorem pu_pick {c a b : Operand} : Pu fun id h => c_pick En id tm h c a b := by
  unfold c_pick
  generalize evo tm c = v
  cases v <;> (try exact Pu.err _)
  rename_i b; cases b <;> exact Pu.val _
theorem pu_build {t : TypeId} {ps : Array (Nat × Operand)} : Pu fun id h => c_build En id tm h t ps := by
  unfold c_build
  refine Pu.bnd fun d => ?_
  simp only
  generalize d.desc = dd
  cases dd <;> (try exact Pu.err _)
  · exact Pu.bnd fun _ => Pu.bnd fun _ => Pu.val _
  · exact Pu.bnd fun _ => Pu.bnd fun _ => Pu.val _
theorem pu_nilCheck {x : Operand} : Pu fun id h => c_nilCheck En id tm h x := by
  unfold c_nilCheck
  generalize evo tm x = v
  cases v <;> (try exact Pu.err _)
  · rename_i p; cases p <;> first | exact Pu.err _ | exact Pu.val _
  · rename_i f a b; cases f <;> first | exact Pu.err _ | exact Pu.val _
theorem pu_binOp {t : TypeId} {op : BinOp} {x y : Operand} : Pu fun id h => c_binOp En id tm h t op x y := by
  unfold c_binOp; exact Pu.bnd fun _ => Pu.val _
theorem pu_unOp {op : UnOp} {x : Operand} : Pu fun id h => c_unOp En id tm h op x := by
  unfold c_unOp
  generalize evo tm x = v
  cases op <;> cases v <;> first | exact Pu.err _ | exact Pu.val _ | exact Pu.bnd fun _ => Pu.val _
theorem pu_makeFunc {fn : Fn} {a b : Array Operand} : Pu fun id h => c_makeFunc En id tm h fn a b := by
  unfold c_makeFunc
  cases fn <;> first | exact Pu.err _ | exact Pu.val _
theorem pu_slice {t : TypeId} {x : Operand} {lo hi mx : Option Operand} : Pu fun id h => c_slice En id tm h t x lo hi mx := by
  unfold c_slice
  simp only
  refine Pu.bnd fun d => ?_
  generalize d.desc = dd
  generalize evo tm x = v
  generalize lo.map (evo tm) = lo
  generalize hi.map (evo tm) = hi
  generalize mx.map (evo tm) = mx
  cases dd <;> (try exact Pu.err _)
  · cases v <;> (try exact Pu.err _)
    cases mx
    · exact Pu.bnd fun _ => Pu.val _
    · exact Pu.err _
  · cases v <;> (try exact Pu.err _)
    rename_i a n c; cases a
    · exact Pu.bnd fun _ => Pu.bnd fun _ => Pu.val _
    · rename_i a
      refine Pu.bnd fun de => Pu.bnd fun q => ?_
      obtain ⟨q1, q2, q3⟩ := q
      obtain ⟨bl, of, sp⟩ := a
      cases sp with
      | none => exact Pu.val _
      | some es =>
        cases mx with
        | none =>
          cases es with
          | zero => exact Pu.val _
          | succ es =>
            refine Pu.chk ?_
            simp only
            generalize (Nat.beq q3 q1 && Nat.blt 0 q1) = bb
            cases bb <;> exact Pu.val _
        | some m => exact Pu.chk (Pu.val _)
  · cases v <;> (try exact Pu.err _)
    rename_i a; cases a
    · exact Pu.err _
    · exact Pu.bnd fun _ => Pu.bnd fun _ => Pu.val _
theorem pu_fieldAddr {t : TypeId} {x : Operand} {f : Nat} : Pu fun id h => c_fieldAddr En id tm h t x f := by
  unfold c_fieldAddr
  refine Pu.bnd fun d => Pu.bnd fun de => ?_
  generalize evo tm x = v
  cases v <;> (try exact Pu.err _)
  rename_i a; cases a
  · exact Pu.err _
  · exact Pu.chk (Pu.val _)
theorem pu_field {t : TypeId} {x : Operand} {f : Nat} : Pu fun id h => c_field En id tm h t x f := by
  unfold c_field
  refine Pu.bnd fun d => Pu.bnd fun de => ?_
  generalize evo tm x = v
  cases v <;> (try exact Pu.err _)
  exact Pu.bnd fun _ => Pu.val _
theorem pu_indexAddr {t : TypeId} {x i : Operand} : Pu fun id h => c_indexAddr En id tm h t x i := by
  unfold c_indexAddr
  refine Pu.bnd fun d => Pu.bnd fun de => ?_
  generalize evo tm x = v
  generalize d.desc = dd
  cases dd <;> cases v <;> (try exact Pu.err _)
  · rename_i a _ _; cases a
    · exact Pu.err _
    · exact Pu.bnd fun _ => Pu.chk (Pu.val _)
  · rename_i a; cases a
    · exact Pu.err _
    · exact Pu.bnd fun _ => Pu.chk (Pu.val _)
theorem pu_index {t : TypeId} {x i : Operand} : Pu fun id h => c_index En id tm h t x i := by
  unfold c_index
  refine Pu.bnd fun d => Pu.bnd fun de => ?_
  generalize evo tm x = v
  generalize d.desc = dd
  cases dd <;> cases v <;> (try exact Pu.err _)
  · rename_i s
    simp only
    generalize s[de]? = q
    cases q
    · exact Pu.err _
    · exact Pu.val _
  · exact Pu.bnd fun _ => Pu.chk (Pu.bnd fun _ => Pu.val _)
theorem pu_extract {x : Operand} {i : Nat} : Pu fun id h => c_extract En id tm h x i := by
  unfold c_extract
  generalize evo tm x = v
  cases v <;> (try exact Pu.err _)
  exact Pu.bnd fun _ => Pu.val _
theorem rd_load {t : TypeId} {x : Operand} : Rd fun id h => c_load En id tm h t x := by
  unfold c_load
  refine Rd.bnd fun d _ => ?_
  generalize evo tm x = v
  cases v <;> (try exact (Pu.err _).rd)
  rename_i a; cases a
  · exact (Pu.err _).rd
  · rename_i a
    simp only [ldv]
    generalize isAg d.desc = b
    intro id h rs e
    obtain ⟨v, hv, e1⟩ := bnd_ok e
    simp only [Except.ok.injEq] at e1
    refine ⟨v, e1.symm, fun id' h' hx => ?_⟩
    cases b with
    | true =>
      simp only at hv ⊢
      obtain ⟨cs, hcs, e2⟩ := bnd_ok hv
      rw [rd_ext hx hcs]; simp only [bnd]; simp only [Except.ok.injEq] at e2; rw [e2]
    | false =>
      simp only at hv ⊢
      obtain ⟨cs, hcs, e2⟩ := bnd_ok hv
      rw [rd_ext hx hcs]; simp only [bnd]
      cases cs with
      | nil => cases e2
      | cons y ys => cases ys with
        | nil => simp only [Except.ok.injEq] at e2 ⊢; rw [e2]
        | cons _ _ => cases e2
theorem rd_convert {s d : TypeId} {x : Operand} (hd : ∀ td, En.ty.get d = some td → (∃ k, td.desc = .int k) ∨ td.desc = .string) : Rd fun id h => c_convert En id tm h s d x := by
  unfold c_convert convC
  refine Rd.bnd fun ds _ => Rd.bnd fun dd hdd => ?_
  have hk := hd dd (opt_ok hdd)
  generalize evo tm x = v
  generalize ds.desc = sd
  generalize dd.desc = td at hk ⊢
  rcases hk with ⟨k, rfl⟩ | rfl
  · cases v <;> cases sd <;> first | exact (Pu.err _).rd | exact (Pu.val _).rd
  · cases v with
    | slice a n c =>
      cases a with
      | none =>
        cases sd <;> (try exact (Pu.err _).rd)
        refine Rd.bnd fun de _ => ?_
        generalize de.desc = q
        cases q <;> (try exact (Pu.err _).rd)
        rename_i k; cases k <;> first | exact (Pu.err _).rd | exact (Pu.val _).rd
      | some a =>
        cases sd <;> (try exact (Pu.err _).rd)
        refine Rd.bnd fun de _ => ?_
        generalize de.desc = q
        cases q <;> (try exact (Pu.err _).rd)
        rename_i k; cases k <;> (try exact (Pu.err _).rd)
        exact Rd.rd fun _ => Pu.bnd fun _ => Pu.val _
    | string s => cases sd <;> exact (Pu.val _).rd
    | _ => cases sd <;> exact (Pu.err _).rd
theorem al_alloc {t : TypeId} : Al fun id h => c_alloc En id tm h t := by
  unfold c_alloc
  exact Al.bnd fun d _ => Al.bnd fun ob hob => Al.new (G := fun id => .pointer (some ⟨id, 0, none⟩)) (mkBlk_fam hob)
theorem al_box {t : TypeId} {x : Operand} : Al fun id h => c_box En id tm h t x := by
  unfold c_box
  exact Al.bnd fun d _ => Al.bnd fun ob hob => Al.new (G := fun id => .pointer (some ⟨id, 0, none⟩)) (mkBlk_fam hob)
theorem al_buildSlice {t : TypeId} {n : Nat} {ps : Array (Nat × Operand)} : Al fun id h => c_buildSlice En id tm h t n ps := by
  unfold c_buildSlice
  refine Al.bnd fun d _ => ?_
  generalize d.desc = dd
  cases dd <;> (try exact Al.err _)
  exact Al.bnd fun _ _ => Al.bnd fun _ _ => Al.bnd fun ob hob => Al.chk (Al.new (G := fun id => .slice (some ⟨id, 0, none⟩) n n) (mkBlk_fam hob))
theorem al_makeSlice {t : TypeId} {l c : Operand} : Al fun id h => c_makeSlice En id tm h t l c := by
  unfold c_makeSlice
  refine Al.bnd fun d _ => ?_
  generalize d.desc = dd
  cases dd <;> (try exact Al.err _)
  exact Al.bnd fun _ _ => Al.bnd fun l _ => Al.bnd fun c _ => Al.chk (Al.bnd fun ob hob => Al.new (G := fun id => .slice (some ⟨id, 0, none⟩) l c) (mkBlk_fam hob))
theorem al_range {t : TypeId} {x : Operand} : Al fun id h => c_range En id tm h t x := by
  unfold c_range
  refine Al.bnd fun d _ => ?_
  generalize d.desc = dd
  generalize evo tm x = v
  cases dd <;> cases v <;> (try exact Al.err _)
  exact Al.new (G := fun id => .pointer (some ⟨id, 0, none⟩)) rfl
end
end Go.Ev
