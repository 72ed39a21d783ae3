/-
  By an AI agent: a part of the proof of this claim; what is proved stands in the text YtjinlihckmgioaaGreatDoorMain.
-/
import Derived.Test.YtjinlihckmgioaaGreatDoorEvTxt
set_option linter.unusedVariables false
set_option linter.unusedSimpArgs false
set_option linter.unusedSectionVars false
set_option linter.unusedVariables false
set_option linter.unusedSimpArgs false
namespace Go.Ev
open Go Go.RowKit
noncomputable section

/-- What a call comes to, in whatever heap that knows as much. -/
def CallD (En : Env) (f : Nat) (args : List Value) (h : Hp) (v : Value) (h' : Hp) : Prop :=
  ∃ N, ∀ hp, HSub h hp → ∃ hp', callW En (evN En N) f args hp = .ok (v, hp') ∧ HSub h' hp'

abbrev ObL := List (Nat × Ob)
abbrev FaL := List (Nat × List (Nat × Nat))
structure Kn where
  f : Nat
  args : List Value
  L : ObL
  cnt : Nat
  fl : FaL
  v : Value
  h' : Hp
def Kn.h (k : Kn) : Hp := { obs := ofAL k.L, cnt := k.cnt, fams := ofAL k.fl }

def optB : Option Value → Option Value → Bool
  | none, none => true
  | some a, some b => veq1 a b
  | _, _ => false
def trB : Tr Value → Tr Value → Bool
  | .leaf, .leaf => true
  | .node v l r, .node v' l' r' => match optB v v' with | true => (match trB l l' with | true => trB r r' | false => false) | false => false
  | _, _ => false
def mpB : List (Value × Value) → List (Value × Value) → Bool
  | [], [] => true
  | (a, b) :: r, (a', b') :: r' => match veq1 a a' with | true => (match veq1 b b' with | true => mpB r r' | false => false) | false => false
  | _, _ => false
def obB : Ob → Ob → Bool
  | .cells a, .cells b => Nat.beq a.size b.size && Nat.beq a.elem b.elem && Nat.beq a.fam b.fam && trB a.cells b.cells
  | .map a, .map b => mpB a b
  | _, _ => false
def stB : List (Nat × Nat) → List (Nat × Nat) → Bool
  | [], [] => true
  | (a, b) :: r, (a', b') :: r' => Nat.beq a a' && Nat.beq b b' && stB r r'
  | _, _ => false
def obsB (t : Tr Ob) : ObL → Bool
  | [] => true
  | (i, ob) :: r => match getF t i with | some ob' => (match obB ob ob' with | true => obsB t r | false => false) | none => false
def famB (t : Tr (List (Nat × Nat))) : FaL → Bool
  | [] => true
  | (i, st) :: r => match getF t i with | some st' => (match stB st st' with | true => famB t r | false => false) | none => false

theorem optB_eq : ∀ {a b : Option Value}, optB a b = true → a = b
  | none, none, _ => rfl
  | some a, some b, h => by rw [veq1_eq h]
  | none, some _, h => by cases h
  | some _, none, h => by cases h
theorem trB_eq : ∀ {a b : Tr Value}, trB a b = true → a = b
  | .leaf, .leaf, _ => rfl
  | .node v l r, .node v' l' r', h => by
    unfold trB at h
    split at h
    · rename_i h1
      split at h
      · rename_i h2
        rw [optB_eq h1, trB_eq h2, trB_eq h]
      · cases h
    · cases h
  | .leaf, .node _ _ _, h => by cases h
  | .node _ _ _, .leaf, h => by cases h
theorem mpB_eq : ∀ {a b : List (Value × Value)}, mpB a b = true → a = b
  | [], [], _ => rfl
  | (x, y) :: r, (x', y') :: r', h => by
    unfold mpB at h
    split at h
    · rename_i h1
      split at h
      · rename_i h2
        rw [veq1_eq h1, veq1_eq h2, mpB_eq h]
      · cases h
    · cases h
  | [], _ :: _, h => by cases h
  | _ :: _, [], h => by cases h
theorem obB_eq {a b : Ob} (h : obB a b = true) : a = b := by
  unfold obB at h
  split at h
  · rename_i x y
    simp only [Bool.and_eq_true] at h
    obtain ⟨⟨⟨h1, h2⟩, h3⟩, h4⟩ := h
    obtain ⟨c1, s1, e1, f1⟩ := x
    obtain ⟨c2, s2, e2, f2⟩ := y
    simp only at h1 h2 h3 h4
    rw [Nat.eq_of_beq_eq_true h1, Nat.eq_of_beq_eq_true h2, Nat.eq_of_beq_eq_true h3, trB_eq h4]
  · rw [mpB_eq h]
  · cases h
theorem stB_eq : ∀ {a b : List (Nat × Nat)}, stB a b = true → a = b
  | [], [], _ => rfl
  | (x, y) :: r, (x', y') :: r', h => by
    simp only [stB, Bool.and_eq_true] at h
    rw [Nat.eq_of_beq_eq_true h.1.1, Nat.eq_of_beq_eq_true h.1.2, stB_eq h.2]
  | [], _ :: _, h => by cases h
  | _ :: _, [], h => by cases h
theorem obsB_ok {t : Tr Ob} : ∀ {L : ObL}, obsB t L = true → ∀ p ∈ L, t.get p.1 = some p.2
  | [], _, p, hp => by cases hp
  | (i, ob) :: r, h, p, hp => by
    unfold obsB at h
    split at h
    · rename_i ob' hg
      split at h
      · rename_i hb
        rcases List.mem_cons.1 hp with rfl | hp
        · rw [obB_eq hb]; exact hg
        · exact obsB_ok h p hp
      · cases h
    · cases h
theorem famB_ok {t : Tr (List (Nat × Nat))} : ∀ {L : FaL}, famB t L = true → ∀ p ∈ L, t.get p.1 = some p.2
  | [], _, p, hp => by cases hp
  | (i, ob) :: r, h, p, hp => by
    unfold famB at h
    split at h
    · rename_i ob' hg
      split at h
      · rename_i hb
        rcases List.mem_cons.1 hp with rfl | hp
        · rw [stB_eq hb]; exact hg
        · exact famB_ok h p hp
      · cases h
    · cases h

theorem ofAL_mem {α : Type} : ∀ {L : List (Nat × α)} {x : Nat} {a : α}, (ofAL L).get x = some a → (x, a) ∈ L
  | [], x, a, h => by cases h
  | (i, b) :: r, x, a, h => by
    simp only [ofAL] at h
    by_cases hn : i + 1 < 2 ^ dep
    · rw [Tr.put, Tr.get_set dep _ _ _ _ hn] at h
      split at h
      · rename_i hx; simp only [Option.some.injEq] at h; rw [hx, h]; simp
      · simp [ofAL_mem h]
    · rw [Tr.put, Tr.get_set_far dep _ _ _ _ (by omega)] at h
      simp [ofAL_mem h]

def veqBs : List Value → List Value → Bool
  | [], [] => true
  | x :: xs, y :: ys => (match veqB x y with | true => veqBs xs ys | false => false)
  | _, _ => false
theorem veqBs_eq : ∀ {a b : List Value}, veqBs a b = true → a = b
  | [], [], _ => rfl
  | x :: xs, y :: ys, h => by
    unfold veqBs at h
    split at h
    · rename_i h1; rw [veqB_eq h1, veqBs_eq h]
    · cases h
  | [], _ :: _, h => by cases h
  | _ :: _, [], h => by cases h
def veqC : Value → Value → Bool
  | .agg a, .agg b => veqBs a.toList b.toList
  | a, b => veqB a b
theorem veqC_eq {a b : Value} (h : veqC a b = true) : a = b := by
  unfold veqC at h
  split at h
  · congr 1; apply Array.ext'; exact veqBs_eq h
  · exact veqB_eq h
def veqCs : List Value → List Value → Bool
  | [], [] => true
  | x :: xs, y :: ys => (match veqC x y with | true => veqCs xs ys | false => false)
  | _, _ => false
theorem veqCs_eq : ∀ {a b : List Value}, veqCs a b = true → a = b
  | [], [], _ => rfl
  | x :: xs, y :: ys, h => by
    unfold veqCs at h
    split at h
    · rename_i h1; rw [veqC_eq h1, veqCs_eq h]
    · cases h
  | [], _ :: _, h => by cases h
  | _ :: _, [], h => by cases h
def knB (k : Kn) (f : Nat) (args : List Value) (h : Hp) : Bool :=
  match Nat.beq k.f f with
  | false => false
  | true => match Nat.beq k.cnt h.cnt with
    | false => false
    | true => match veqCs k.args args with
      | false => false
      | true => match obsB h.obs k.L with
        | false => false
        | true => famB h.fams k.fl
theorem knB_ok {k : Kn} {f : Nat} {args : List Value} {h : Hp} (e : knB k f args h = true) : k.f = f ∧ k.args = args ∧ HSub k.h h := by
  unfold knB at e
  split at e
  · cases e
  · rename_i h1
    split at e
    · cases e
    · rename_i h2
      split at e
      · cases e
      · rename_i h3
        split at e
        · cases e
        · rename_i h4
          refine ⟨Nat.eq_of_beq_eq_true h1, veqCs_eq h3, Nat.eq_of_beq_eq_true h2, fun x ob hx => obsB_ok h4 _ (ofAL_mem hx), fun x st hx => famB_ok e _ (ofAL_mem hx)⟩

def findKn (f : Nat) (args : List Value) (h : Hp) : List Kn → Option Kn
  | [] => none
  | k :: r => match knB k f args h with | true => some k | false => findKn f args h r
theorem findKn_ok {f : Nat} {args : List Value} {h : Hp} : ∀ {ks : List Kn} {k : Kn}, findKn f args h ks = some k → k ∈ ks ∧ knB k f args h = true
  | [], k, e => by cases e
  | k0 :: r, k, e => by
    unfold findKn at e
    split at e
    · rename_i hb; simp only [Option.some.injEq] at e; subst e; exact ⟨by simp, hb⟩
    · obtain ⟨h1, h2⟩ := findKn_ok e; exact ⟨by simp [h1], h2⟩

/-- An oracle that knows some calls. -/
def orcK (ks : List Kn) (base : Orc) : Orc := fun rs => @Rs.casesOn (fun _ => E (Value × Hp)) rs (fun v h => .ok (v, h))
  (fun f args h => @Option.rec Kn (fun _ => E (Value × Hp)) (base (.enter f args h)) (fun k => .ok (k.v, k.h')) (findKn f args h ks))
  (fun l args h => base (.yld l args h))
def orcKN (En : Env) (tab : Tab) (xFuel : Nat) (ks : List Kn) (n : Nat) : Orc :=
  @Nat.rec (fun _ => Orc) (fun _ => .error 0) (fun _ ih => orcK ks (orcS En tab xFuel ih)) n

def KnOk (En : Env) : List Kn → Prop
  | [] => True
  | k :: r => CallD En k.f k.args k.h k.v k.h' ∧ KnOk En r
theorem KnOk.all {En : Env} : ∀ {ks : List Kn}, KnOk En ks → ∃ N, ∀ k ∈ ks, ∀ hp, HSub k.h hp → ∃ hp', callW En (evN En N) k.f k.args hp = .ok (k.v, hp') ∧ HSub k.h' hp'
  | [], _ => ⟨0, fun k hk => by cases hk⟩
  | k :: r, h => by
    obtain ⟨⟨N1, h1⟩, h2⟩ := h
    obtain ⟨N2, h3⟩ := KnOk.all h2
    refine ⟨N1 + N2, fun k' hk hp hs => ?_⟩
    rcases List.mem_cons.1 hk with rfl | hk
    · obtain ⟨hp', k1, k2⟩ := h1 hp hs
      exact ⟨hp', callW_mono (evN_mono En (by omega)) k1, k2⟩
    · obtain ⟨hp', k1, k2⟩ := h3 k' hk hp hs
      exact ⟨hp', callW_mono (evN_mono En (by omega)) k1, k2⟩

theorem orcKN_ok {En : Env} {bigN : Nat} {l : List (Nat × Run)} (hl : AllOk En bigN l) (xFuel : Nat) {ks : List Kn} (hk : KnOk En ks) : ∀ n, ∃ N, OrS (orcKN En (ofAL l) xFuel ks n) (runRs En (evN En N))
  | 0 => ⟨0, fun x y q hxy h => by cases h⟩
  | n + 1 => by
    obtain ⟨N, hN⟩ := orcKN_ok hl xFuel hk n
    obtain ⟨N2, hK⟩ := hk.all
    have hS := orcS_ok hl xFuel hN
    refine ⟨N + bigN + xFuel + N2, fun x y q hxy h => ?_⟩
    have up : ∀ {q'}, runRs En (evN En (N + bigN + xFuel)) y = .ok q' → runRs En (evN En (N + bigN + xFuel + N2)) y = .ok q' := fun h => runN_mono En (by omega) _ _ h
    cases x with
    | val v h0 =>
      cases y with
      | val v' h0' => 
        have h : (.ok (v, h0) : E (Value × Hp)) = .ok q := h
        simp only [Except.ok.injEq] at h; subst h; exact ⟨_, rfl, hxy.1, hxy.2⟩
      | _ => exact hxy.elim
    | enter f args h0 =>
      have h : @Option.rec Kn (fun _ => E (Value × Hp)) (orcS En (ofAL l) xFuel (orcKN En (ofAL l) xFuel ks n) (.enter f args h0)) (fun k => .ok (k.v, k.h')) (findKn f args h0 ks) = .ok q := h
      cases hf : findKn f args h0 ks with
      | none =>
        rw [hf] at h
        obtain ⟨q', k1, k2⟩ := hS _ y q hxy h
        exact ⟨q', up k1, k2⟩
      | some k =>
        rw [hf] at h
        simp only [Except.ok.injEq] at h; subst h
        obtain ⟨g1, g2⟩ := findKn_ok hf
        obtain ⟨rfl, rfl, g3⟩ := knB_ok g2
        cases y with
        | enter f' args' h0' =>
          obtain ⟨rfl, rfl, hh⟩ := hxy
          obtain ⟨hp', k1, k2⟩ := hK k g1 h0' (g3.trans hh)
          exact ⟨(k.v, hp'), callW_mono (evN_mono En (by omega)) k1, rfl, k2⟩
        | _ => exact hxy.elim
    | yld l0 args h0 =>
      have h : orcS En (ofAL l) xFuel (orcKN En (ofAL l) xFuel ks n) (.yld l0 args h0) = .ok q := h
      obtain ⟨q', k1, k2⟩ := hS _ y q hxy h
      exact ⟨q', up k1, k2⟩

def pickL {α : Type} (t : Tr α) : List Nat → Option (List (Nat × α))
  | [] => some []
  | i :: r => match getF t i, pickL t r with | some a, some l => some ((i, a) :: l) | _, _ => none
theorem pickL_ok {α : Type} {t : Tr α} : ∀ {is : List Nat} {l : List (Nat × α)}, pickL t is = some l → ∀ p ∈ l, t.get p.1 = some p.2
  | [], l, h, p, hp => by simp only [pickL, Option.some.injEq] at h; subst h; cases hp
  | i :: r, l, h, p, hp => by
    unfold pickL at h
    split at h
    · rename_i a l' h1 h2
      simp only [Option.some.injEq] at h; subst h
      rcases List.mem_cons.1 hp with rfl | hp
      · exact h1
      · exact pickL_ok h2 p hp
    · cases h
/-- What is kept of what a call comes to. -/
def leafR (r : E (Value × Hp)) (ids fids : List Nat) : Option (Value × Nat × ObL × FaL) :=
  match r with
  | .ok q => (match pickL q.2.obs ids, pickL q.2.fams fids with | some a, some b => some (q.1, q.2.cnt, a, b) | _, _ => none)
  | .error _ => none

theorem leaf_ok {En : Env} {bigN : Nat} {l : List (Nat × Run)} (hl : AllOk En bigN l) {xFuel n : Nat} {ks : List Kn} (hk : KnOk En ks) {f : Nat} {args : List Value} {h : Hp} {ids fids : List Nat} {v : Value} {cnt : Nat} {L : ObL} {fl : FaL}
    (e : leafR (orcKN En (ofAL l) xFuel ks n (.enter f args h)) ids fids = some (v, cnt, L, fl)) : CallD En f args h v { obs := ofAL L, cnt := cnt, fams := ofAL fl } := by
  obtain ⟨N, hN⟩ := orcKN_ok hl xFuel hk n
  cases hr : orcKN En (ofAL l) xFuel ks n (.enter f args h) with
  | error k => rw [hr] at e; cases e
  | ok r =>
    rw [hr] at e
    simp only [leafR] at e
    split at e
    · rename_i a b h1 h2
      simp only [Option.some.injEq, Prod.mk.injEq] at e
      obtain ⟨e1, e2, e3, e4⟩ := e
      subst e3; subst e4
      refine ⟨N, fun hp hs => ?_⟩
      obtain ⟨⟨v', hp'⟩, k1, k2, k3⟩ := hN (.enter f args h) (.enter f args hp) r (⟨rfl, rfl, hs⟩ : RsSub (.enter f args h) (.enter f args hp)) hr
      simp only at k2 k3
      refine ⟨hp', ?_, ?_⟩
      · rw [← e1, k2]; exact k1
      · refine ⟨by rw [← k3.cnt]; exact e2.symm, fun x ob hx => k3.obs x ob (pickL_ok h1 _ (ofAL_mem hx)), fun x st hx => k3.fams x st (pickL_ok h2 _ (ofAL_mem hx))⟩
    · cases e

def runTopK (En : Env) (tab : Tab) (ks : List Kn) (xFuel n f : Nat) : Bool := isTrue (orcKN En tab xFuel ks n (.enter f [] hp0))
/-- Whatever the compiled program takes to true returns true, in whatever world. -/
theorem runTopK_calls {P : Program} {En : Env} (hE : EnvOk P En) {bigN : Nat} {l : List (Nat × Run)} (hl : AllOk En bigN l) {ks : List Kn} (hk : KnOk En ks) {xFuel n f : Nat} (e : runTopK En (ofAL l) ks xFuel n f = true) (w : World) :
    Calls P f #[] w fun e w' => e = .returned (.bool true) ∧ Below w.heap.size w w' := by
  unfold runTopK at e
  cases hr : orcKN En (ofAL l) xFuel ks n (.enter f [] hp0) with
  | error k => rw [hr] at e; cases e
  | ok r =>
    rw [hr] at e
    obtain ⟨N, hN⟩ := orcKN_ok hl xFuel hk n
    obtain ⟨q', h, k1, _⟩ := hN (.enter f [] hp0) (.enter f [] hp0) _ (⟨rfl, rfl, HSub.refl _⟩ : RsSub (.enter f [] hp0) (.enter f [] hp0)) hr
    have h : callW En (evN En N) f [] hp0 = .ok q' := h
    refine ev_calls hE (N := N) ?_ w
    unfold evCall0
    rw [h]
    obtain ⟨v, h1⟩ := r
    obtain ⟨v', h1'⟩ := q'
    simp only at k1; subst k1
    cases v <;> exact e
end
end Go.Ev
