/-
  By an AI agent: a part of the proof of this claim; what is proved stands in the text YtjinlihckmgioaaGreatDoorMain.
-/
import Derived.Test.YtjinlihckmgioaaGreatDoorEvDen4
set_option linter.unusedVariables false
set_option linter.unusedSimpArgs false
set_option linter.unusedSectionVars false
set_option linter.unusedVariables false
set_option linter.unusedSimpArgs false
namespace Go.Ev
open Go
noncomputable section

inductive Cc (F : Type) where
  | skip | ret | bad
  | exit (i : Nat)
  | seq (a b : Cc F)
  | cond (f : F → Value) (a b : Cc F)
  | block (i : Nat) (b : Cc F)
  | loop (b : Cc F)
  | reg (f : Orc → F → Hp → E (F × Hp))

structure Ot (F : Type) where
  x : Ex
  f : F
  h : Hp

variable {F : Type}
def rdV (m : AL) (x : Operand) : Value :=
  match x with
  | .tmp t => match lookA m t with | some v => v | none => .chan none
  | .const c => match plainV c with | true => c | false => psn
  | .global _ => psn
  | .func f => .func (.func f) #[] #[]
def condV (T : FrT F) (ps : List Nat) (c : Operand) (fr : F) : Value := rdV (ps.zip (T.toL fr)) c

def mkCc (En : Env) (T : FrT F) (ps : List Nat) (nt : Nat) : Cd → Cc F
  | .skip => .skip
  | .ret => .ret
  | .exit i => .exit i
  | .seq a b => .seq (mkCc En T ps nt a) (mkCc En T ps nt b)
  | .cond c a b => .cond (condV T ps c) (mkCc En T ps nt a) (mkCc En T ps nt b)
  | .block i b => .block i (mkCc En T ps nt b)
  | .loop b => .loop (mkCc En T ps nt b)
  | .scope b => mkCc En T ps nt b
  | .region ops n => .reg (denReg En T ps nt ops n [])
  | .drawn ops n prs => .reg (denReg En T ps nt ops n prs)
  | .rangeFunc _ _ _ _ => .bad
  | .bad => .bad

def fuel : Nat := 1000000
def loopF (f : F → Hp → E (Ot F)) (n : Nat) : F → Hp → E (Ot F) :=
  @Nat.rec (fun _ => F → Hp → E (Ot F)) (fun _ _ => .error 0)
    (fun _ ih fr h => bndF (f fr h) fun q => @Ot.rec F (fun _ => E (Ot F)) (fun x f h => @Ex.rec (fun _ => E (Ot F)) (ih f h) (fun i => .ok ⟨.exit i, f, h⟩) (.ok ⟨.ret, f, h⟩) x) q) n

def evC (orc : Orc) (c : Cc F) : F → Hp → E (Ot F) :=
  @Cc.rec F (fun _ => F → Hp → E (Ot F))
    (fun fr h => .ok ⟨.normal, fr, h⟩) (fun fr h => .ok ⟨.ret, fr, h⟩) (fun fr h => .error 169)
    (fun i fr h => .ok ⟨.exit i, fr, h⟩)
    (fun _ _ A B fr h => bndF (A fr h) fun q => @Ot.rec F (fun _ => E (Ot F)) (fun x f h => @Ex.rec (fun _ => E (Ot F)) (B f h) (fun i => .ok ⟨.exit i, f, h⟩) (.ok ⟨.ret, f, h⟩) x) q)
    (fun f _ _ A B fr h => bolK (f fr) fun b => @Bool.rec (fun _ => E (Ot F)) (B fr h) (A fr h) b)
    (fun i _ B fr h => bndF (B fr h) fun q => @Ot.rec F (fun _ => E (Ot F)) (fun x f h => @Ex.rec (fun _ => E (Ot F)) (.ok ⟨.normal, f, h⟩) (fun j => @Bool.rec (fun _ => E (Ot F)) (.ok ⟨.exit j, f, h⟩) (.ok ⟨.normal, f, h⟩) (Nat.beq j i)) (.ok ⟨.ret, f, h⟩) x) q)
    (fun _ B => loopF B fuel)
    (fun f fr h => bndF (f orc fr h) fun q => @Prod.rec F Hp (fun _ => E (Ot F)) (fun a b => .ok ⟨.normal, a, b⟩) q) c

def need : Cd → Nat
  | .seq a b => Nat.max (need a) (need b) + 1
  | .cond _ a b => Nat.max (need a) (need b) + 1
  | .block _ b => need b + 1
  | .loop b => need b + fuel + 1
  | .scope b => need b + 1
  | _ => 1

section
variable {En : Env} {orc : Orc} {N : Nat} (hO : OrS orc (runRs En (evN En N))) {T : FrT F} {ps : List Nat} (hn : ps.length = T.n)
include hO hn

def CcOk (En : Env) (orc : Orc) (N : Nat) (T : FrT F) (ps : List Nat) (c : Cd) (M : Nat) (f : Nat → F → Hp → E (Ot F)) : Prop :=
  ∀ (s : St) (fr : F) (h : Hp) (q : Ot F), HSub h s.hp → FrR T ps fr s.tm → f s.nt fr h = .ok q → ∃ s', evN En M c s = .ok (q.x, s') ∧ FrR T ps q.f s'.tm ∧ s'.nt = s.nt ∧ s'.ro = s.ro ∧ HSub q.h s'.hp

omit hO hn in
theorem CcOk.mono {c : Cd} {M M' : Nat} {f : Nat → F → Hp → E (Ot F)} (h0 : CcOk En orc N T ps c M f) (hM : M ≤ M') : CcOk En orc N T ps c M' f := by
  intro s fr h q hh h1 h2
  obtain ⟨s', g1, g2⟩ := h0 _ _ _ _ hh h1 h2
  exact ⟨s', evN_mono En hM _ _ _ g1, g2⟩

omit hO hn in
theorem loop_ok {b : Cd} {M : Nat} {B : Nat → F → Hp → E (Ot F)} (hB : CcOk En orc N T ps b M B) : ∀ n, CcOk En orc N T ps (.loop b) (M + n) (fun nt => loopF (B nt) n)
  | 0 => fun _ _ _ _ _ h1 h2 => by cases h2
  | n + 1 => by
    intro s fr h q hh h1 h2
    have h2 : bndF (B s.nt fr h) (fun q => @Ex.rec (fun _ => E (Ot F)) (loopF (B s.nt) n q.f q.h) (fun i => .ok ⟨.exit i, q.f, q.h⟩) (.ok ⟨.ret, q.f, q.h⟩) q.x) = .ok q := h2
    rw [bndF_eq] at h2
    obtain ⟨q1, h3, h4⟩ := bnd_ok h2
    obtain ⟨s1, g1, g2, g3, g4, g5⟩ := (hB.mono (Nat.le_add_right M n)) _ _ _ _ hh h1 h3
    have he : evN En (M + (n + 1)) (.loop b) s = evStep En (evN En (M + n)) (.loop b) s := rfl
    rw [he]
    simp only [evStep, g1, bnd]
    cases hx : q1.x with
    | normal =>
      rw [hx] at h4
      simp only at h4
      rw [← g3] at h4
      obtain ⟨s2, k1, k2, k3, k4, k5⟩ := loop_ok hB n _ _ _ _ g5 g2 h4
      exact ⟨s2, k1, k2, k3.trans g3, k4.trans g4, k5⟩
    | exit i =>
      rw [hx] at h4
      simp only [Except.ok.injEq] at h4
      subst h4
      exact ⟨s1, rfl, g2, g3, g4, g5⟩
    | ret =>
      rw [hx] at h4
      simp only [Except.ok.injEq] at h4
      subst h4
      exact ⟨s1, rfl, g2, g3, g4, g5⟩

omit hO hn in
theorem rdV_ok {m : AL} {tm : Tr Value} (hm : KnA m tm) {x : Operand} {b : Bool} (e : rdV m x = .bool b) : evo tm x = .bool b := by
  cases x with
  | tmp t =>
    simp only [rdV] at e
    split at e
    · rename_i v hv; rw [hm t v hv, e]
    · cases e
  | const c =>
    simp only [rdV] at e
    simp only [evo]
    cases hp : plainV c <;> rw [hp] at e <;> exact e
  | global g => exact e
  | func f => exact e

theorem mkCc_ok : ∀ (c : Cd), CcOk En orc N T ps c (N + need c) (fun nt => evC orc (mkCc En T ps nt c))
  | .skip => by
    intro s fr h q hh h1 h2
    have h2 : (Except.ok ⟨.normal, fr, h⟩ : E (Ot F)) = .ok q := h2
    simp only [Except.ok.injEq] at h2; subst h2
    exact ⟨s, rfl, h1, rfl, rfl, hh⟩
  | .ret => by
    intro s fr h q hh h1 h2
    have h2 : (Except.ok ⟨.ret, fr, h⟩ : E (Ot F)) = .ok q := h2
    simp only [Except.ok.injEq] at h2; subst h2
    exact ⟨s, rfl, h1, rfl, rfl, hh⟩
  | .exit i => by
    intro s fr h q hh h1 h2
    have h2 : (Except.ok ⟨.exit i, fr, h⟩ : E (Ot F)) = .ok q := h2
    simp only [Except.ok.injEq] at h2; subst h2
    exact ⟨s, rfl, h1, rfl, rfl, hh⟩
  | .bad => by intro s fr h q hh h1 h2; cases h2
  | .rangeFunc _ _ _ _ => by intro s fr h q hh h1 h2; cases h2
  | .scope b => by
    intro s fr h q hh h1 h2
    exact mkCc_ok b _ _ _ _ hh h1 h2
  | .seq a b => by
    intro s fr h q hh h1 h2
    have h2 : bndF (evC orc (mkCc En T ps s.nt a) fr h) (fun q => @Ex.rec (fun _ => E (Ot F)) (evC orc (mkCc En T ps s.nt b) q.f q.h) (fun i => .ok ⟨.exit i, q.f, q.h⟩) (.ok ⟨.ret, q.f, q.h⟩) q.x) = .ok q := h2
    rw [bndF_eq] at h2
    obtain ⟨q1, h3, h4⟩ := bnd_ok h2
    have hA := (mkCc_ok a).mono (M' := N + Nat.max (need a) (need b)) (Nat.add_le_add_left (Nat.le_max_left _ _) _)
    have hB := (mkCc_ok b).mono (M' := N + Nat.max (need a) (need b)) (Nat.add_le_add_left (Nat.le_max_right _ _) _)
    obtain ⟨s1, g1, g2, g3, g4, g5⟩ := hA _ _ _ _ hh h1 h3
    have he : evN En (N + need (.seq a b)) (.seq a b) s = evStep En (evN En (N + Nat.max (need a) (need b))) (.seq a b) s := rfl
    rw [he]
    simp only [evStep, g1, bnd]
    cases hx : q1.x with
    | normal =>
      rw [hx] at h4
      simp only at h4
      rw [← g3] at h4
      obtain ⟨s2, k1, k2, k3, k4, k5⟩ := hB _ _ _ _ g5 g2 h4
      exact ⟨s2, k1, k2, k3.trans g3, k4.trans g4, k5⟩
    | exit i =>
      rw [hx] at h4
      simp only [Except.ok.injEq] at h4
      subst h4
      exact ⟨s1, rfl, g2, g3, g4, g5⟩
    | ret =>
      rw [hx] at h4
      simp only [Except.ok.injEq] at h4
      subst h4
      exact ⟨s1, rfl, g2, g3, g4, g5⟩
  | .cond c a b => by
    intro s fr h q hh h1 h2
    have h2 : bolK (condV T ps c fr) (fun t => @Bool.rec (fun _ => E (Ot F)) (evC orc (mkCc En T ps s.nt b) fr h) (evC orc (mkCc En T ps s.nt a) fr h) t) = .ok q := h2
    obtain ⟨t, h3, h4⟩ := bolK_ok h2
    have hk : KnA (ps.zip (T.toL fr)) s.tm := by
      intro t v h
      rw [h1] at h
      exact lookA_zip (fun p => evo s.tm (.tmp p)) ps h
    have hv := rdV_ok hk h3
    have hA := (mkCc_ok a).mono (M' := N + Nat.max (need a) (need b)) (Nat.add_le_add_left (Nat.le_max_left _ _) _)
    have hB := (mkCc_ok b).mono (M' := N + Nat.max (need a) (need b)) (Nat.add_le_add_left (Nat.le_max_right _ _) _)
    have he : evN En (N + need (.cond c a b)) (.cond c a b) s = evStep En (evN En (N + Nat.max (need a) (need b))) (.cond c a b) s := rfl
    rw [he]
    simp only [evStep, hv]
    cases t with
    | true => exact hA _ _ _ _ hh h1 h4
    | false => exact hB _ _ _ _ hh h1 h4
  | .block i b => by
    intro s fr h q hh h1 h2
    have h2 : bndF (evC orc (mkCc En T ps s.nt b) fr h) (fun q => @Ex.rec (fun _ => E (Ot F)) (.ok ⟨.normal, q.f, q.h⟩) (fun j => @Bool.rec (fun _ => E (Ot F)) (.ok ⟨.exit j, q.f, q.h⟩) (.ok ⟨.normal, q.f, q.h⟩) (Nat.beq j i)) (.ok ⟨.ret, q.f, q.h⟩) q.x) = .ok q := h2
    rw [bndF_eq] at h2
    obtain ⟨q1, h3, h4⟩ := bnd_ok h2
    obtain ⟨s1, g1, g2, g3, g4, g5⟩ := mkCc_ok b _ _ _ _ hh h1 h3
    have he : evN En (N + need (.block i b)) (.block i b) s = evStep En (evN En (N + need b)) (.block i b) s := rfl
    rw [he]
    simp only [evStep, g1, bnd]
    cases hx : q1.x with
    | normal =>
      rw [hx] at h4
      simp only [Except.ok.injEq] at h4
      subst h4
      exact ⟨s1, rfl, g2, g3, g4, g5⟩
    | exit j =>
      rw [hx] at h4
      simp only at h4 ⊢
      cases hb : Nat.beq j i with
      | true =>
        rw [hb] at h4
        simp only [Except.ok.injEq] at h4
        subst h4
        exact ⟨s1, rfl, g2, g3, g4, g5⟩
      | false =>
        rw [hb] at h4
        simp only [Except.ok.injEq] at h4
        subst h4
        exact ⟨s1, rfl, g2, g3, g4, g5⟩
    | ret =>
      rw [hx] at h4
      simp only [Except.ok.injEq] at h4
      subst h4
      exact ⟨s1, rfl, g2, g3, g4, g5⟩
  | .loop b => by
    have := loop_ok (mkCc_ok b) fuel
    exact this.mono (by simp only [need]; omega)
  | .region ops n => by
    intro s fr h q hh h1 h2
    have h2 : bndF (denReg En T ps s.nt ops n [] orc fr h) (fun q => (.ok ⟨.normal, q.1, q.2⟩ : E (Ot F))) = .ok q := h2
    rw [bndF_eq] at h2
    obtain ⟨⟨fr', h'⟩, h3, h4⟩ := bnd_ok h2
    simp only [Except.ok.injEq] at h4
    subst h4
    obtain ⟨s', g1, g2, g3, g4, g5, g6⟩ := denReg_ok hO hn h1 hh h3
    exact ⟨s', g2 rfl, g3, g4, g5, g6⟩
  | .drawn ops n prs => by
    intro s fr h q hh h1 h2
    have h2 : bndF (denReg En T ps s.nt ops n prs orc fr h) (fun q => (.ok ⟨.normal, q.1, q.2⟩ : E (Ot F))) = .ok q := h2
    rw [bndF_eq] at h2
    obtain ⟨⟨fr', h'⟩, h3, h4⟩ := bnd_ok h2
    simp only [Except.ok.injEq] at h4
    subst h4
    obtain ⟨s', g1, g2, g3, g4, g5, g6⟩ := denReg_ok hO hn h1 hh h3
    exact ⟨s', g1, g3, g4, g5, g6⟩
end
end
end Go.Ev
