/-
  By an AI agent: a part of the proof of this claim; what is proved stands in the text YtjinlihckmgioaaGreatDoorMain.
-/
import Derived.Test.YtjinlihckmgioaaGreatDoorEvTab
set_option linter.unusedVariables false
set_option linter.unusedSimpArgs false
set_option linter.unusedSectionVars false
set_option linter.unusedVariables false
namespace Go.Ev
open Go
noncomputable section

abbrev Orc := Rs → E (Value × Hp)

def opG (En : Env) (run : Orc) (ops : List Oper) (id : Nat) (o : Oper) (s : St) : E (Bool × Value × St) :=
  bnd (wantedC ops s.tm o) fun w =>
  match w with
  | false => bnd (putD s o.dst undef s.hp) fun s' => .ok (false, undef, s')
  | true => bnd (cop En id s.tm s.hp o) fun rs => bnd (run rs) fun (v, h) => bnd (putD s o.dst v h) fun s' => .ok (true, v, s')

def opsG (En : Env) (run : Orc) (ops : List Oper) (id : Nat) : List Oper → St → E St
  | [], s => .ok s
  | o :: r, s => bnd (opG En run ops id o s) fun (_, _, s') => opsG En run ops (id + 1) r s'

def opsTG (En : Env) (run : Orc) (ops : List Oper) (id : Nat) : List Oper → St → E (List T3 × St)
  | [], s => .ok ([], s)
  | o :: r, s => bnd (opG En run ops id o s) fun (w, v, s') => bnd (opsTG En run ops (id + 1) r s') fun (tr, sf) => .ok (⟨s, w, v⟩ :: tr, sf)

def evStepG (En : Env) (run : Orc) (ev : Evl) (c : Cd) (s : St) : E (Ex × St) :=
  match c with
  | .skip => .ok (.normal, s)
  | .ret => .ok (.ret, s)
  | .exit i => .ok (.exit i, s)
  | .seq a b => bnd (ev a s) fun (e, s') => match e with
    | .normal => ev b s'
    | e => .ok (e, s')
  | .cond c a b => match evo s.tm c with
    | .bool true => ev a s
    | .bool false => ev b s
    | _ => .error 163
  | .block i b => bnd (ev b s) fun (e, s') => match e with
    | .exit j => (match Nat.beq j i with | true => .ok (.normal, s') | false => .ok (.exit j, s'))
    | e => .ok (e, s')
  | .loop b => bnd (ev b s) fun (e, s') => match e with
    | .normal => ev (.loop b) s'
    | e => .ok (e, s')
  | .scope b => ev b s
  | .region ops n =>
    chk 164 (Nat.blt (s.hp.cnt + n) maxCnt) <|
    bnd (opsG En run ops s.hp.cnt ops (bump s n)) fun s' => .ok (.normal, s')
  | .drawn ops n ps =>
    chk 164 (Nat.blt (s.hp.cnt + n) maxCnt) <|
    match ps with
    | [] => bnd (opsG En run ops s.hp.cnt ops (bump s n)) fun s' => .ok (.normal, s')
    | _ :: _ => bnd (opsTG En run ops s.hp.cnt ops (bump s n)) fun (tr, s') => chk 170 (chks En s.hp.cnt ops tr s' ps) (.ok (.normal, s'))
  | .rangeFunc g ps assign body =>
    bnd (match s.ro with | none => .ok () | some l => bnd (getLp s.hp l) fun _ => .ok ()) fun _ =>
    chk 8 (Nat.blt s.hp.cnt maxCnt) <|
    bnd (callC En (evo s.tm g) [.func (.yield s.hp.cnt) #[] #[]] { putLp s.hp s.hp.cnt { tm := s.tm, nt := s.nt, params := ps, assign, body, state := .ready, pending := none } with cnt := s.hp.cnt + 1 }) fun rs => match rs with
    | .enter f args h => bnd (run (.enter f args h)) fun (_, h') =>
      bnd (getLp h' s.hp.cnt) fun r => chk 165 (!isBusy r.state) <|
        let s' : St := { s with hp := putLp h' s.hp.cnt { r with state := .exhausted } }
        match r.pending with
        | none => .ok (.normal, s')
        | some .ret => .ok (.ret, s')
        | some (.exit i) => .ok (.exit i, s')
    | _ => .error 168
  | .bad => .error 169

theorem opG_eq (En : Env) (ev : Evl) (ops : List Oper) (id : Nat) (o : Oper) (s : St) : opW En ev ops id o s = opG En (runRs En ev) ops id o s := rfl
theorem opsG_eq (En : Env) (ev : Evl) (ops : List Oper) : ∀ (l : List Oper) (id : Nat) (s : St), opsW En ev ops id l s = opsG En (runRs En ev) ops id l s
  | [], id, s => rfl
  | o :: r, id, s => by
    simp only [opsW, opsG, opG_eq, opsG_eq En ev ops r]
theorem opsTG_eq (En : Env) (ev : Evl) (ops : List Oper) : ∀ (l : List Oper) (id : Nat) (s : St), opsT En ev ops id l s = opsTG En (runRs En ev) ops id l s
  | [], id, s => rfl
  | o :: r, id, s => by
    simp only [opsT, opsTG, opG_eq, opsTG_eq En ev ops r]
theorem evStepG_eq (En : Env) (ev : Evl) (c : Cd) (s : St) : evStep En ev c s = evStepG En (runRs En ev) ev c s := by
  cases c with
  | region ops n => simp only [evStep, evStepG, opsG_eq]
  | drawn ops n ps =>
    cases ps with
    | nil => simp only [evStep, evStepG, opsG_eq]
    | cons p ps => simp only [evStep, evStepG, opsTG_eq]
  | _ => rfl

/-! More is known, as much is answered. -/
def OLe (a b : Orc) : Prop := ∀ rs r, a rs = .ok r → b rs = .ok r
def VLe (a b : Evl) : Prop := ∀ c s r, a c s = .ok r → b c s = .ok r

theorem bnd_mono {α β : Type} {x x' : E α} {f f' : α → E β} (hx : ∀ a, x = .ok a → x' = .ok a) (hf : ∀ a r, f a = .ok r → f' a = .ok r) {r : β} (h : bnd x f = .ok r) : bnd x' f' = .ok r := by
  obtain ⟨a, h1, h2⟩ := bnd_ok h
  rw [hx a h1]; exact hf a r h2

theorem chk_mono {α : Type} {n : Nat} {b : Bool} {x x' : E α} (hx : ∀ a, x = .ok a → x' = .ok a) {r : α} (h : chk n b x = .ok r) : chk n b x' = .ok r := by
  cases b with
  | true => exact hx r h
  | false => cases h

section
variable {En : Env} {run run' : Orc} (hR : OLe run run') {ev ev' : Evl} (hV : VLe ev ev')
include hR
theorem opG_mono {ops : List Oper} {id : Nat} {o : Oper} {s : St} {r : Bool × Value × St} (h : opG En run ops id o s = .ok r) : opG En run' ops id o s = .ok r := by
  unfold opG at h ⊢
  refine bnd_mono (fun a h => h) (fun w r h => ?_) h
  cases w with
  | false => exact h
  | true => exact bnd_mono (fun a h => h) (fun rs r h => bnd_mono (fun a h => hR rs a h) (fun a r h => h) h) h
theorem opsG_mono {ops : List Oper} : ∀ (l : List Oper) {id : Nat} {s : St} {r : St}, opsG En run ops id l s = .ok r → opsG En run' ops id l s = .ok r
  | [], id, s, r, h => h
  | o :: l, id, s, r, h => by
    unfold opsG at h ⊢
    exact bnd_mono (fun a h => opG_mono hR h) (fun a r h => opsG_mono l h) h
theorem opsTG_mono {ops : List Oper} : ∀ (l : List Oper) {id : Nat} {s : St} {r : List T3 × St}, opsTG En run ops id l s = .ok r → opsTG En run' ops id l s = .ok r
  | [], id, s, r, h => h
  | o :: l, id, s, r, h => by
    unfold opsTG at h ⊢
    exact bnd_mono (fun a h => opG_mono hR h) (fun a r h => bnd_mono (fun a h => opsTG_mono l h) (fun a r h => h) h) h
include hV
theorem evStepG_mono {c : Cd} {s : St} {r : Ex × St} (h : evStepG En run ev c s = .ok r) : evStepG En run' ev' c s = .ok r := by
  cases c with
  | skip => exact h
  | ret => exact h
  | exit i => exact h
  | bad => exact h
  | scope b => exact hV _ _ _ h
  | seq a b =>
    refine bnd_mono (fun a h => hV _ _ _ h) (fun a r h => ?_) h
    obtain ⟨e, s'⟩ := a
    cases e with
    | normal => exact hV _ _ _ h
    | _ => exact h
  | cond c a b =>
    unfold evStepG at h ⊢
    simp only at h ⊢
    split at h
    · exact hV _ _ _ h
    · exact hV _ _ _ h
    · cases h
  | block i b => exact bnd_mono (fun a h => hV _ _ _ h) (fun a r h => h) h
  | loop b =>
    refine bnd_mono (fun a h => hV _ _ _ h) (fun a r h => ?_) h
    obtain ⟨e, s'⟩ := a
    cases e with
    | normal => exact hV _ _ _ h
    | _ => exact h
  | region ops n => exact chk_mono (fun a h => bnd_mono (fun a h => opsG_mono hR _ h) (fun a r h => h) h) h
  | drawn ops n ps =>
    refine chk_mono (fun a h => ?_) h
    cases ps with
    | nil => exact bnd_mono (fun a h => opsG_mono hR _ h) (fun a r h => h) h
    | cons p ps => exact bnd_mono (fun a h => opsTG_mono hR _ h) (fun a r h => h) h
  | rangeFunc g ps assign body =>
    refine bnd_mono (fun a h => h) (fun u r h => chk_mono (fun a h => bnd_mono (fun a h => h) (fun rs r h => ?_) h) h) h
    cases rs with
    | enter f args h0 => exact bnd_mono (fun a h => hR _ a h) (fun a r h => h) h
    | _ => exact h
end

theorem callW_mono {En : Env} {ev ev' : Evl} (hV : VLe ev ev') {f : Nat} {args : List Value} {h : Hp} {r : Value × Hp} (e : callW En ev f args h = .ok r) : callW En ev' f args h = .ok r := by
  unfold callW at e ⊢
  exact bnd_mono (fun a h => h) (fun fn r h => chk_mono (fun a h => bnd_mono (fun a h => hV _ _ _ h) (fun a r h => h) h) h) e
theorem yieldW_mono {ev ev' : Evl} (hV : VLe ev ev') {l : Nat} {args : List Value} {h : Hp} {r : Value × Hp} (e : yieldW ev l args h = .ok r) : yieldW ev' l args h = .ok r := by
  unfold yieldW at e ⊢
  refine bnd_mono (fun a h => h) (fun lp r h => bnd_mono (fun a h => h) (fun tm r h => bnd_mono (fun a h => hV _ _ _ h) (fun a r h => ?_) h) h) e
  obtain ⟨x, s⟩ := a
  cases x with
  | normal => exact bnd_mono (fun a h => h) (fun r1 r h => chk_mono (fun a h => bnd_mono (fun a h => hV _ _ _ h) (fun a r h => h) h) h) h
  | _ => exact h
theorem runRs_mono {En : Env} {ev ev' : Evl} (hV : VLe ev ev') : OLe (runRs En ev) (runRs En ev') := by
  intro rs r e
  cases rs with
  | val v h => exact e
  | enter f args h => exact callW_mono hV e
  | yld l args h => exact yieldW_mono hV e
theorem evStep_mono {En : Env} {ev ev' : Evl} (hV : VLe ev ev') : VLe (evStep En ev) (evStep En ev') := by
  intro c s r h
  rw [evStepG_eq] at h ⊢
  exact evStepG_mono (runRs_mono hV) hV h
theorem evN_succ (En : Env) : ∀ N, VLe (evN En N) (evN En (N + 1))
  | 0 => fun c s r h => by cases h
  | N + 1 => evStep_mono (evN_succ En N)
theorem evN_mono (En : Env) {N M : Nat} (h : N ≤ M) : VLe (evN En N) (evN En M) := by
  induction h with
  | refl => exact fun c s r h => h
  | step _ ih => exact fun c s r h => evN_succ En _ c s r (ih c s r h)
theorem runN_mono (En : Env) {N M : Nat} (h : N ≤ M) : OLe (runRs En (evN En N)) (runRs En (evN En M)) := runRs_mono (evN_mono En h)

/-- The evaluator that asks an oracle for its calls. -/
def evX (En : Env) (orc : Orc) : Nat → Evl
  | 0 => fun _ _ => .error 0
  | n + 1 => evStepG En orc (evX En orc n)
theorem evX_sound {En : Env} {orc : Orc} {N : Nat} (hO : OLe orc (runRs En (evN En N))) : ∀ n, VLe (evX En orc n) (evN En (N + n))
  | 0 => fun c s r h => by cases h
  | n + 1 => fun c s r h => by
    have h1 : evN En (N + (n + 1)) c s = evStep En (evN En (N + n)) c s := rfl
    rw [h1, evStepG_eq]
    exact evStepG_mono (fun rs r h => runN_mono En (Nat.le_add_right N n) rs r (hO rs r h)) (evX_sound hO n) h
end
end Go.Ev
