/-
  By an AI agent: a part of the proof of this claim; what is proved stands in the text YtjinlihckmgioaaGreatDoorMain.
-/
import Derived.Test.YtjinlihckmgioaaGreatDoorEvX
import Derived.Test.YtjinlihckmgioaaGreatDoorEvK2
import Derived.Test.YtjinlihckmgioaaGreatDoorEvC3
set_option linter.unusedVariables false
set_option linter.unusedSimpArgs false
set_option linter.unusedSectionVars false
set_option linter.unusedVariables false
set_option linter.unusedSimpArgs false
namespace Go.Ev
open Go

/-! What is known of fewer blocks is known of more. -/
theorem Tr.get_set_far {α : Type} : ∀ (f : Nat) (t : Tr α) (n m : Nat) (x : Option α), 2 ^ f ≤ n + 1 → (Tr.set f t n x).get m = t.get m := by
  intro f
  induction f with
  | zero =>
    intro t n m x h
    cases t with
    | leaf => rfl
    | node v l r => rfl
  | succ f ih =>
    intro t n m x h
    have hp : 2 ^ (f + 1) = 2 * 2 ^ f := by rw [Nat.pow_succ]; omega
    have hpos : 0 < 2 ^ f := Nat.two_pow_pos f
    cases n with
    | zero => omega
    | succ k =>
      have hk : 2 ^ f ≤ k / 2 + 1 := by omega
      cases t with
      | leaf =>
        rw [Tr.set_leaf_succ]
        split <;> (cases m with
          | zero => rfl
          | succ m => rw [Tr.get_node_succ]; split <;> first | rfl | exact ih .leaf _ _ _ hk)
      | node v l r =>
        rw [Tr.set_node_succ]
        split <;> (cases m with
          | zero => rfl
          | succ m => rw [Tr.get_node_succ, Tr.get_node_succ]; split <;> first | rfl | exact ih _ _ _ _ hk)

def OSub {α : Type} (a b : Tr α) : Prop := ∀ x ob, a.get x = some ob → b.get x = some ob
theorem OSub.set {α : Type} {a b : Tr α} (h : OSub a b) (n : Nat) (x : Option α) : OSub (Tr.set dep a n x) (Tr.set dep b n x) := by
  intro m ob hm
  by_cases hn : n + 1 < 2 ^ dep
  · rw [Tr.get_set dep _ _ _ _ hn] at hm ⊢
    split
    · rename_i e; rw [if_pos e] at hm; exact hm
    · rename_i e; rw [if_neg e] at hm; exact h m ob hm
  · rw [Tr.get_set_far dep _ _ _ _ (by omega)] at hm ⊢
    exact h m ob hm

structure HSub (a b : Hp) : Prop where
  cnt : a.cnt = b.cnt
  obs : OSub a.obs b.obs
  fams : OSub a.fams b.fams

theorem HSub.refl (a : Hp) : HSub a a := ⟨rfl, fun _ _ h => h, fun _ _ h => h⟩
theorem HSub.trans {a b c : Hp} (h : HSub a b) (k : HSub b c) : HSub a c := ⟨h.cnt.trans k.cnt, fun x o e => k.obs x o (h.obs x o e), fun x o e => k.fams x o (h.fams x o e)⟩

def RsSub : Rs → Rs → Prop
  | .val v h, .val v' h' => v = v' ∧ HSub h h'
  | .enter f args h, .enter f' args' h' => f = f' ∧ args = args' ∧ HSub h h'
  | .yld l args h, .yld l' args' h' => l = l' ∧ args = args' ∧ HSub h h'
  | _, _ => False
def RSub (x y : E Rs) : Prop := ∀ rs, x = .ok rs → ∃ rs', y = .ok rs' ∧ RsSub rs rs'

theorem RSub.bnd {α : Type} {x : E α} {f g : α → E Rs} (h : ∀ a, x = .ok a → RSub (f a) (g a)) : RSub (Ev.bnd x f) (Ev.bnd x g) := by
  intro rs e
  obtain ⟨a, h1, h2⟩ := bnd_ok e
  obtain ⟨rs', h3, h4⟩ := h a h1 rs h2
  exact ⟨rs', by rw [h1]; exact h3, h4⟩
theorem RSub.bnd' {α : Type} {x y : E α} {f g : α → E Rs} (hx : ∀ a, x = .ok a → y = .ok a) (h : ∀ a, RSub (f a) (g a)) : RSub (Ev.bnd x f) (Ev.bnd y g) := by
  intro rs e
  obtain ⟨a, h1, h2⟩ := bnd_ok e
  obtain ⟨rs', h3, h4⟩ := h a rs h2
  exact ⟨rs', by rw [hx a h1]; exact h3, h4⟩
theorem RSub.chk {n : Nat} {b : Bool} {x y : E Rs} (h : RSub x y) : RSub (Ev.chk n b x) (Ev.chk n b y) := by
  intro rs e
  obtain ⟨h1, h2⟩ := chk_ok e
  rw [h1]; exact h rs h2
theorem RSub.err (n : Nat) (y : E Rs) : RSub (.error n) y := fun rs e => by cases e
theorem RSub.val {v : Value} {h h' : Hp} (hs : HSub h h') : RSub (.ok (.val v h)) (.ok (.val v h')) := fun rs e => by
  simp only [Except.ok.injEq] at e; subst e; exact ⟨_, rfl, rfl, hs⟩

section
variable {En : Env} {a b : Hp} (h : HSub a b)
include h
theorem getBlk_sub {x : Nat} {k : Blk} (e : getBlk a x = .ok k) : getBlk b x = .ok k := getBlk_ext h.obs e
theorem rd_sub {x o n : Nat} {cs : List Value} (e : rd a x o n = .ok cs) : rd b x o n = .ok cs := rd_ext h.obs e
theorem ldv_sub {d : TD} {x o : Nat} {v : Value} (e : ldv d a x o = .ok v) : ldv d b x o = .ok v := by
  unfold ldv at e ⊢
  split
  · rename_i hd; rw [hd] at e; exact bnd_mono (fun c hc => rd_sub h hc) (fun _ _ h => h) e
  · rename_i hd; rw [hd] at e; exact bnd_mono (fun c hc => rd_sub h hc) (fun _ _ h => h) e
theorem firstC_sub {s n : Nat} {x : Value} {cs : List Value} (e : firstC a s n x = .ok cs) : firstC b s n x = .ok cs := by
  unfold firstC at e ⊢
  split at e <;> first | exact rd_sub h e | exact e

theorem new_sub (id : Nat) (ob : Ob) : HSub (newAt a id ob) (newAt b id ob) := ⟨h.cnt, h.obs.set id _, h.fams⟩

omit h in
theorem cull_sub {x lim : Nat} : ∀ (st : List (Nat × Nat)) {a b : Tr Ob}, OSub a b → OSub (cull a x lim st).1 (cull b x lim st).1 ∧ (cull a x lim st).2 = (cull b x lim st).2
  | [], a, b, h => ⟨h, rfl⟩
  | (c, s) :: r, a, b, h => by
    simp only [cull]
    cases Nat.ble s lim with
    | true => exact ⟨h, rfl⟩
    | false =>
      cases Nat.beq c x with
      | true => exact cull_sub r h
      | false => exact cull_sub r (h.set c none)

theorem wr_sub {x o : Nat} {vs : List Value} {a' : Hp} (e : wr a x o vs = .ok a') : ∃ b', wr b x o vs = .ok b' ∧ HSub a' b' := by
  unfold wr at e ⊢
  obtain ⟨k, h1, e⟩ := bnd_ok e
  obtain ⟨h2, e⟩ := chk_ok e
  obtain ⟨h3, e⟩ := chk_ok e
  rw [getBlk_sub h h1]
  simp only [bnd, h2, h3, chk]
  cases vs with
  | nil => simp only [Except.ok.injEq] at e; subst e; exact ⟨b, rfl, h⟩
  | cons v vs =>
    simp only at e ⊢
    unfold wrF at e ⊢
    cases hf : k.fam with
    | zero =>
      rw [hf] at e
      simp only [Except.ok.injEq] at e; subst e
      exact ⟨_, rfl, h.cnt, h.obs.set x _, h.fams⟩
    | succ f =>
      rw [hf] at e
      simp only at e ⊢
      cases hg : a.fams.get f with
      | none => rw [hg] at e; cases e
      | some st =>
        rw [hg] at e
        rw [h.fams f st hg]
        simp only [Except.ok.injEq] at e; subst e
        obtain ⟨c1, c2⟩ := cull_sub (x := x) (lim := o) st h.obs
        exact ⟨_, rfl, h.cnt, c1.set x _, by simp only [c2]; exact h.fams.set f _⟩

theorem grown_sub {vs : List Value} {t e n : Nat} : RSub (grown a vs t e n) (grown b vs t e n) := by
  unfold grown
  rw [h.cnt]
  exact .chk (.chk (.chk (.val ⟨rfl, h.obs.set _ _, h.fams.set _ _⟩)))

theorem append_sub {e : TD} {et : TypeId} {s x : Value} : RSub (appendC e et a s x) (appendC e et b s x) := by
  unfold appendC
  cases s <;> first | exact .err _ _ | skip
  rename_i base len cap
  refine .bnd fun n hn => .bnd' (fun cs hc => firstC_sub h hc) fun new => ?_
  unfold appN
  cases Nat.ble (len + n) cap with
  | true =>
    simp only
    unfold appR
    cases base with
    | none => exact .val h
    | some ad =>
      intro rs e
      obtain ⟨a', h1, e⟩ := bnd_ok e
      simp only [Except.ok.injEq] at e; subst e
      obtain ⟨b', h2, h3⟩ := wr_sub h h1
      exact ⟨.val (.slice (some ad) (len + n) cap) b', by simp only [h2, bnd], (⟨rfl, h3⟩ : RsSub (.val _ _) (.val _ _))⟩
  | false =>
    simp only
    unfold appG
    refine .chk ?_
    cases base with
    | none => exact .chk (grown_sub h)
    | some ad =>
      refine .bnd' (fun cs hc => rd_sub h hc) fun old => ?_
      cases ad.spot with
      | none => exact grown_sub h
      | some es =>
        simp only
        unfold appE
        refine .chk (.bnd' (fun k hk => getBlk_sub h hk) fun k => ?_)
        rw [h.cnt]
        refine .chk ?_
        cases k.fam with
        | zero => exact .err _ _
        | succ f =>
          simp only
          unfold appF
          cases hg : a.fams.get f with
          | none => exact .err _ _
          | some st =>
            rw [h.fams f st hg]
            simp only
            rw [h.cnt]
            obtain ⟨c1, c2⟩ := cull_sub (x := b.cnt) (lim := len * e.size) st h.obs
            exact .val ⟨by simp only [h.cnt], c1.set _ _, by simp only [c2]; exact h.fams.set _ _⟩

theorem conv_sub {s d : TypeId} {x : Value} : RSub (convC En s d x a) (convC En s d x b) := by
  unfold convC
  refine .bnd fun ds _ => .bnd fun dd _ => ?_
  split
  · exact .val h
  · exact .val h
  · refine .bnd fun de _ => ?_
    split
    · exact .val h
    · exact .err _ _
  · refine .bnd fun de _ => ?_
    split
    · exact .bnd' (fun cs hc => rd_sub h hc) fun cs => .bnd fun bs _ => .val h
    · exact .err _ _
  · refine .bnd fun de _ => ?_
    split
    · exact grown_sub h
    · exact .err _ _
  · refine .bnd fun de _ => ?_
    split
    · split
      · exact .err _ _
      · exact .bnd' (fun k hk => getBlk_sub h hk) fun k => .val h
    · exact .err _ _
  · exact .err _ _

theorem call_sub {f : Value} {args : List Value} : RSub (callC En f args a) (callC En f args b) := by
  unfold callC
  split
  · split
    · exact .bnd fun v _ => .val h
    · exact .bnd fun v _ => fun rs e => by simp only [Except.ok.injEq] at e; subst e; exact ⟨_, rfl, rfl, rfl, h⟩
  · intro rs e; simp only [Except.ok.injEq] at e; subst e; exact ⟨_, rfl, rfl, rfl, h⟩
  · exact .err _ _

theorem builtin_sub {bi : Builtin} {ts : Array TypeId} {args : List Value} : RSub (builtinC En bi ts args a) (builtinC En bi ts args b) := by
  unfold builtinC
  refine .bnd fun t0 _ => .bnd fun d _ => ?_
  split
  · split <;> first | exact .val h | exact .err _ _
  · split <;> first | exact .val h | exact .err _ _
  · split
    · refine .bnd fun de _ => ?_
      split
      · exact append_sub h
      · split
        · split
          · split
            · unfold appendZ
              split
              · exact .chk (grown_sub h)
              · exact .err _ _
            · exact .err _ _
          · exact .err _ _
        · exact .err _ _
    · exact .err _ _
  · split
    · refine .bnd fun de _ => .bnd fun sl _ => ?_
      simp only
      refine .bnd' (fun cs hc => firstC_sub h hc) fun cs => ?_
      split
      · exact .val h
      · intro rs e
        obtain ⟨a', h1, e⟩ := bnd_ok e
        simp only [Except.ok.injEq] at e; subst e
        obtain ⟨b', h2, h3⟩ := wr_sub h h1
        exact ⟨.val _ b', by simp only [h2, bnd], (⟨rfl, h3⟩ : RsSub (.val _ _) (.val _ _))⟩
    · exact .err _ _
  · exact .chk (.val h)
  · exact .chk (.val h)
  · split
    · exact .val h
    · refine .bnd fun de _ => ?_
      intro rs e
      obtain ⟨a', h1, e⟩ := bnd_ok e
      simp only [Except.ok.injEq] at e; subst e
      obtain ⟨b', h2, h3⟩ := wr_sub h h1
      exact ⟨.val _ b', by simp only [h2, bnd], (⟨rfl, h3⟩ : RsSub (.val _ _) (.val _ _))⟩
    · exact .err _ _
  · exact .err _ _

theorem upd_sub {id : Nat} {tm : Tr Value} {t : TypeId} {m k x : Operand} : RSub (c_mapUpdate En id tm a t m k x) (c_mapUpdate En id tm b t m k x) := by
  unfold c_mapUpdate
  refine .bnd fun d _ => ?_
  split
  · refine .bnd fun dk _ => .chk ?_
    split
    · rename_i r _
      cases hg : a.obs.get r with
      | none => exact .err _ _
      | some ob =>
        rw [h.obs r ob hg]
        cases ob with
        | map es => exact .bnd fun es' _ => .val ⟨h.cnt, h.obs.set _ _, h.fams⟩
        | _ => exact .err _ _
    · exact .err _ _
  · exact .err _ _

theorem cop_sub {id : Nat} {tm : Tr Value} {o : Oper} : RSub (cop En id tm a o) (cop En id tm b o) := by
  rcases cl_lt En.ty o.op with hc | hc | hc | hc
  · intro rs e
    obtain ⟨v, rfl, k⟩ := cl0 (tm := tm) hc id a rs e
    exact ⟨_, k id b, rfl, h⟩
  · intro rs e
    obtain ⟨v, rfl, k⟩ := cl1 (tm := tm) hc id a rs e
    exact ⟨_, k id b h.obs, rfl, h⟩
  · intro rs e
    obtain ⟨v, ob, rfl, _, k⟩ := cl2 (tm := tm) hc id a rs e
    exact ⟨_, k b, rfl, new_sub h id ob⟩
  · unfold cop
    split
    case h_9 t ad x ho =>
      unfold c_store
      refine .bnd fun d _ => ?_
      split
      · refine .bnd fun cs _ => .chk ?_
        intro rs e
        obtain ⟨a', h1, e⟩ := bnd_ok e
        simp only [Except.ok.injEq] at e; subst e
        obtain ⟨b', h2, h3⟩ := wr_sub h h1
        exact ⟨.val _ b', by simp only [h2, bnd], (⟨rfl, h3⟩ : RsSub (.val _ _) (.val _ _))⟩
      · exact .err _ _
    all_goals first
      | exact .err _ _
      | exact conv_sub h
      | (rename_i ho; rw [ho] at hc; simp only [clOf] at hc; exact absurd hc (by decide))
      | skip
    · rename_i it ho
      unfold c_next
      split
      · rename_i r _
        cases hg : a.obs.get r with
        | none => exact .err _ _
        | some ob =>
          rw [h.obs r ob hg]
          cases ob with
          | iter s pos =>
            simp only
            cases Nat.blt pos s.size with
            | true => exact .val ⟨h.cnt, h.obs.set _ _, h.fams⟩
            | false => exact .val h
          | _ => exact .err _ _
      · exact .err _ _
    · unfold c_call
      split
      · exact builtin_sub h
      · exact call_sub h
      · exact .err _ _
    · unfold c_makeMap
      refine .bnd fun d _ => ?_
      split
      · exact .bnd fun _ _ => .val (new_sub h id _)
      · exact .err _ _
    · unfold c_lookup
      refine .bnd fun d _ => ?_
      split
      · refine .bnd fun dk _ => .bnd fun de _ => .chk (.bnd' (fun es hes => ?_) fun es => .bnd fun r _ => .val h)
        split at hes
        · exact hes
        · rename_i r _
          split at hes
          · rename_i es' hg
            simp only [h.obs r _ hg]; exact hes
          · cases hes
        · cases hes
      · exact .err _ _
    · exact upd_sub h
    · exact upd_sub h
end

/-! Runs -/
structure SSub (s t : St) : Prop where
  tm : s.tm = t.tm
  nt : s.nt = t.nt
  ro : s.ro = t.ro
  hp : HSub s.hp t.hp
theorem SSub.refl (s : St) : SSub s s := ⟨rfl, rfl, rfl, .refl _⟩
/-- A run of calls that answers alike. -/
def OrS (r r' : Orc) : Prop := ∀ (x y : Rs) (q : Value × Hp), RsSub x y → r x = .ok q → ∃ q', r' y = .ok q' ∧ q.1 = q'.1 ∧ HSub q.2 q'.2
def EvS (e e' : Evl) : Prop := ∀ (c : Cd) (s t : St) (q : Ex × St), SSub s t → e c s = .ok q → ∃ q', e' c t = .ok q' ∧ q.1 = q'.1 ∧ SSub q.2 q'.2

section
variable {En : Env} {run run' : Orc} (hR : OrS run run') {ev ev' : Evl} (hV : EvS ev ev')
include hR
omit hR in
theorem putD_sub {s t s' : St} {d : Option Tmp} {v : Value} {h h' : Hp} (hs : SSub s t) (hh : HSub h h') (e : putD s d v h = .ok s') : ∃ t', putD t d v h' = .ok t' ∧ SSub s' t' := by
  unfold putD at e ⊢
  cases d with
  | none => simp only [Except.ok.injEq] at e; subst e; exact ⟨_, rfl, hs.tm, hs.nt, hs.ro, hh⟩
  | some d =>
    simp only at e ⊢
    obtain ⟨h1, e⟩ := chk_ok e
    simp only [Except.ok.injEq] at e; subst e
    rw [← hs.nt, h1]
    exact ⟨_, rfl, by simp only [hs.tm], rfl, hs.ro, hh⟩
theorem opG_sub {ops : List Oper} {id : Nat} {o : Oper} {s t s' : St} {w : Bool} {v : Value} (hs : SSub s t) (e : opG En run ops id o s = .ok (w, v, s')) : ∃ t', opG En run' ops id o t = .ok (w, v, t') ∧ SSub s' t' := by
  unfold opG at e ⊢
  obtain ⟨b, h1, e⟩ := bnd_ok e
  rw [← hs.tm, h1]
  simp only [bnd]
  cases b with
  | false =>
    obtain ⟨s1, h2, e⟩ := bnd_ok e
    simp only [Except.ok.injEq, Prod.mk.injEq] at e
    obtain ⟨rfl, rfl, rfl⟩ := e
    obtain ⟨t', h3, h4⟩ := putD_sub hs hs.hp h2
    exact ⟨t', by simp only [h3], h4⟩
  | true =>
    obtain ⟨rs, h2, e⟩ := bnd_ok e
    obtain ⟨⟨v1, h'⟩, h3, e⟩ := bnd_ok e
    obtain ⟨s1, h4, e⟩ := bnd_ok e
    simp only [Except.ok.injEq, Prod.mk.injEq] at e
    obtain ⟨rfl, rfl, rfl⟩ := e
    obtain ⟨rs', k1, k2⟩ := cop_sub hs.hp rs h2
    obtain ⟨q', k3, k4, k5⟩ := hR _ _ _ k2 h3
    simp only at k4 k5
    obtain ⟨t', k6, k7⟩ := putD_sub hs k5 h4
    refine ⟨t', ?_, k7⟩
    simp only [k1, k3, ← k4, k6]
theorem opsG_sub {ops : List Oper} : ∀ (l : List Oper) {id : Nat} {s t s' : St}, SSub s t → opsG En run ops id l s = .ok s' → ∃ t', opsG En run' ops id l t = .ok t' ∧ SSub s' t'
  | [], id, s, t, s', hs, e => by
    simp only [opsG, Except.ok.injEq] at e; subst e; exact ⟨t, rfl, hs⟩
  | o :: l, id, s, t, s', hs, e => by
    unfold opsG at e ⊢
    obtain ⟨⟨w, v, s1⟩, h1, e⟩ := bnd_ok e
    obtain ⟨t1, h2, h3⟩ := opG_sub hR hs h1
    simp only [h2, bnd]
    exact opsG_sub l h3 e

def T3Sub : List T3 → List T3 → Prop
  | [], [] => True
  | x :: xs, y :: ys => (SSub x.s y.s ∧ x.wd = y.wd ∧ x.v = y.v) ∧ T3Sub xs ys
  | _, _ => False
omit hR in
theorem T3Sub.get : ∀ {a b : List T3}, T3Sub a b → ∀ i : Nat, (a[i]? = none ∧ b[i]? = none) ∨ ∃ x y, a[i]? = some x ∧ b[i]? = some y ∧ SSub x.s y.s ∧ x.wd = y.wd ∧ x.v = y.v
  | [], [], _, i => .inl ⟨by simp, by simp⟩
  | a :: as, b :: bs, h, 0 => .inr ⟨a, b, rfl, rfl, h.1⟩
  | a :: as, b :: bs, h, i + 1 => by simpa using T3Sub.get h.2 i
  | [], _ :: _, h, _ => h.elim
  | _ :: _, [], h, _ => h.elim
theorem opsTG_sub {ops : List Oper} : ∀ (l : List Oper) {id : Nat} {s t s' : St} {tr : List T3}, SSub s t → opsTG En run ops id l s = .ok (tr, s') → ∃ tr' t', opsTG En run' ops id l t = .ok (tr', t') ∧ SSub s' t' ∧ T3Sub tr tr'
  | [], id, s, t, s', tr, hs, e => by
    simp only [opsTG, Except.ok.injEq, Prod.mk.injEq] at e
    obtain ⟨rfl, rfl⟩ := e
    exact ⟨[], t, rfl, hs, trivial⟩
  | o :: l, id, s, t, s', tr, hs, e => by
    unfold opsTG at e ⊢
    obtain ⟨⟨w, v, s1⟩, h1, e⟩ := bnd_ok e
    obtain ⟨⟨tr1, s2⟩, h2, e⟩ := bnd_ok e
    simp only [Except.ok.injEq, Prod.mk.injEq] at e
    obtain ⟨rfl, rfl⟩ := e
    obtain ⟨t1, k1, k2⟩ := opG_sub hR hs h1
    obtain ⟨tr', t', k3, k4, k5⟩ := opsTG_sub l k2 h2
    refine ⟨⟨t, w, v⟩ :: tr', t', ?_, k4, ⟨⟨hs, rfl, rfl⟩, k5⟩⟩
    simp only [k1, bnd, k3]
omit hR in
theorem chks_sub {id : Nat} {ops : List Oper} {tr tr' : List T3} {s t : St} (hT : T3Sub tr tr') (hs : SSub s t) : ∀ {ps : List (Nat × Nat)}, chks En id ops tr s ps = true → chks En id ops tr' t ps = true
  | [], _ => rfl
  | (i, j) :: r, e => by
    unfold chks at e ⊢
    split at e
    · rename_i h1
      have h2 : chk1 En id ops tr' t i j = true := by
        have hp : ∀ j, HSub (hpAt tr s j) (hpAt tr' t j) := by
          intro j
          unfold hpAt
          rcases hT.get j with ⟨q1, q2⟩ | ⟨x, y, q1, q2, q3, _⟩
          · simp only [q1, q2]; exact hs.hp
          · simp only [q1, q2]; exact q3.hp
        unfold chk1 at h1 ⊢
        rcases hT.get i with ⟨q1, q2⟩ | ⟨x, y, q1, q2, q3, q4, q5⟩
        · rw [q1] at h1; cases h1
        · simp only [q1] at h1
          simp only [q2]
          cases ho : ops[i]? with
          | none => rw [ho] at h1; cases h1
          | some o =>
            rw [ho] at h1
            simp only at h1 ⊢
            rw [← q4, ← q5, ← q3.tm]
            cases hw : x.wd with
            | false => rfl
            | true =>
              rw [hw] at h1
              simp only at h1 ⊢
              split at h1
              · rename_i v0 h0 hc
                obtain ⟨rs', k1, k2⟩ := cop_sub (hp _) _ hc
                cases rs' with
                | val v' h' =>
                  rw [k1]
                  simp only
                  rw [← k2.1]; exact h1
                | _ => exact k2.elim
              · cases h1
      simp only [h2]
      exact chks_sub hT hs e
    · cases e

omit hR in
theorem getLp_sub {a b : Hp} (h : HSub a b) {l : Nat} {r : Lp} (e : getLp a l = .ok r) : getLp b l = .ok r := by
  have := getLp_ok e
  simp only [getLp, h.obs _ _ this]
omit hR in
theorem putLp_sub {a b : Hp} (h : HSub a b) (l : Nat) (r : Lp) : HSub (putLp a l r) (putLp b l r) := ⟨h.cnt, h.obs.set _ _, h.fams⟩

include hV
theorem evStepG_sub : EvS (evStepG En run ev) (evStepG En run' ev') := by
  intro c s t q hs e
  cases c with
  | skip => simp only [evStepG, Except.ok.injEq] at e; subst e; exact ⟨_, rfl, rfl, hs⟩
  | ret => simp only [evStepG, Except.ok.injEq] at e; subst e; exact ⟨_, rfl, rfl, hs⟩
  | exit i => simp only [evStepG, Except.ok.injEq] at e; subst e; exact ⟨_, rfl, rfl, hs⟩
  | bad => cases e
  | scope b => exact hV _ _ _ _ hs e
  | seq x y =>
    simp only [evStepG] at e ⊢
    obtain ⟨⟨e1, s1⟩, h1, e⟩ := bnd_ok e
    obtain ⟨⟨e2, t1⟩, h2, h3, h4⟩ := hV _ _ _ _ hs h1
    simp only at h3 h4; subst h3
    simp only [h2, bnd]
    cases e1 with
    | normal => exact hV _ _ _ _ h4 e
    | exit i => simp only [Except.ok.injEq] at e; subst e; exact ⟨_, rfl, rfl, h4⟩
    | ret => simp only [Except.ok.injEq] at e; subst e; exact ⟨_, rfl, rfl, h4⟩
  | cond c x y =>
    simp only [evStepG] at e ⊢
    rw [← hs.tm]
    split at e
    · exact hV _ _ _ _ hs e
    · exact hV _ _ _ _ hs e
    · cases e
  | block i b =>
    simp only [evStepG] at e ⊢
    obtain ⟨⟨e1, s1⟩, h1, e⟩ := bnd_ok e
    obtain ⟨⟨e2, t1⟩, h2, h3, h4⟩ := hV _ _ _ _ hs h1
    simp only at h3 h4; subst h3
    simp only [h2, bnd]
    cases e1 with
    | normal => simp only [Except.ok.injEq] at e; subst e; exact ⟨_, rfl, rfl, h4⟩
    | exit j =>
      simp only at e ⊢
      cases hb : Nat.beq j i with
      | true => rw [hb] at e; simp only [Except.ok.injEq] at e; subst e; exact ⟨_, rfl, rfl, h4⟩
      | false => rw [hb] at e; simp only [Except.ok.injEq] at e; subst e; exact ⟨_, rfl, rfl, h4⟩
    | ret => simp only [Except.ok.injEq] at e; subst e; exact ⟨_, rfl, rfl, h4⟩
  | loop b =>
    simp only [evStepG] at e ⊢
    obtain ⟨⟨e1, s1⟩, h1, e⟩ := bnd_ok e
    obtain ⟨⟨e2, t1⟩, h2, h3, h4⟩ := hV _ _ _ _ hs h1
    simp only at h3 h4; subst h3
    simp only [h2, bnd]
    cases e1 with
    | normal => exact hV _ _ _ _ h4 e
    | exit i => simp only [Except.ok.injEq] at e; subst e; exact ⟨_, rfl, rfl, h4⟩
    | ret => simp only [Except.ok.injEq] at e; subst e; exact ⟨_, rfl, rfl, h4⟩
  | region ops n =>
    simp only [evStepG] at e ⊢
    obtain ⟨hc, e⟩ := chk_ok e
    obtain ⟨s1, h1, e⟩ := bnd_ok e
    simp only [Except.ok.injEq] at e; subst e
    have hb : SSub (bump s n) (bump t n) := ⟨hs.tm, hs.nt, hs.ro, by simp only [bump, hs.hp.cnt], hs.hp.obs, hs.hp.fams⟩
    obtain ⟨t1, h2, h3⟩ := opsG_sub hR ops hb h1
    rw [← hs.hp.cnt, hc]
    simp only [chk, h2, bnd]
    exact ⟨_, rfl, rfl, h3⟩
  | drawn ops n ps =>
    simp only [evStepG] at e ⊢
    obtain ⟨hc, e⟩ := chk_ok e
    have hb : SSub (bump s n) (bump t n) := ⟨hs.tm, hs.nt, hs.ro, by simp only [bump, hs.hp.cnt], hs.hp.obs, hs.hp.fams⟩
    rw [← hs.hp.cnt, hc]
    simp only [chk]
    cases ps with
    | nil =>
      simp only at e ⊢
      obtain ⟨s1, h1, e⟩ := bnd_ok e
      simp only [Except.ok.injEq] at e; subst e
      obtain ⟨t1, h2, h3⟩ := opsG_sub hR ops hb h1
      simp only [h2, bnd]
      exact ⟨_, rfl, rfl, h3⟩
    | cons p ps =>
      simp only at e ⊢
      obtain ⟨⟨tr, s1⟩, h1, e⟩ := bnd_ok e
      obtain ⟨hk, e⟩ := chk_ok e
      simp only [Except.ok.injEq] at e; subst e
      obtain ⟨tr', t1, h2, h3, h4⟩ := opsTG_sub hR ops hb h1
      simp only [h2, bnd, chks_sub h4 h3 hk]
      exact ⟨_, rfl, rfl, h3⟩
  | rangeFunc g ps assign body =>
    obtain ⟨tm, nt, ro, hp⟩ := s
    obtain ⟨tm', nt', ro', hp'⟩ := t
    obtain ⟨a1, a2, a3, hs⟩ := hs
    simp only at a1 a2 a3 hs
    subst a1; subst a2; subst a3
    simp only [evStepG] at e ⊢
    obtain ⟨u, h1, e⟩ := bnd_ok e
    obtain ⟨hc, e⟩ := chk_ok e
    obtain ⟨rs, h2, e⟩ := bnd_ok e
    have hpre : ∀ (F : Unit → E (Ex × St)), bnd (match ro with | none => (.ok () : E Unit) | some l => bnd (getLp hp' l) fun _ => .ok ()) F = F () := by
      intro F
      cases ro with
      | none => rfl
      | some l =>
        obtain ⟨r, hr, _⟩ := bnd_ok h1
        simp only [getLp_sub hs hr, bnd]
    have hh : HSub { putLp hp hp.cnt { tm := tm, nt := nt, params := ps, assign, body, state := .ready, pending := none } with cnt := hp.cnt + 1 } { putLp hp' hp.cnt { tm := tm, nt := nt, params := ps, assign, body, state := .ready, pending := none } with cnt := hp.cnt + 1 } :=
      ⟨rfl, (putLp_sub hs _ _).obs, hs.fams⟩
    obtain ⟨rs', k1, k2⟩ := call_sub hh rs h2
    cases rs with
    | val v h0 => cases e
    | yld l a h0 => cases e
    | enter f args h0 =>
      cases rs' with
      | val v h0 => exact k2.elim
      | yld l a h0 => exact k2.elim
      | enter f' args' h0' =>
        obtain ⟨⟨v1, h'⟩, h3, e⟩ := bnd_ok e
        obtain ⟨⟨v2, h2'⟩, h4, h5, h6⟩ := hR _ _ _ k2 h3
        simp only at h5 h6
        obtain ⟨r, h7, e⟩ := bnd_ok e
        obtain ⟨h8, e⟩ := chk_ok e
        have h7' := getLp_sub h6 h7
        have hpx := putLp_sub h6 hp.cnt { r with state := .exhausted }
        cases hpd : r.pending with
        | none =>
          rw [hpd] at e; simp only [Except.ok.injEq] at e; subst e
          refine ⟨(.normal, { tm := tm, nt := nt, ro := ro, hp := putLp h2' hp.cnt { r with state := .exhausted, pending := none } }), (hpre _).trans ?_, ?_⟩
          · rw [← hs.cnt, hc]; simp only [chk, k1, bnd, h4, h7', h8, hpd]
          · exact ⟨rfl, rfl, rfl, rfl, by rw [hpd] at hpx; exact hpx⟩
        | some j =>
          rw [hpd] at e
          cases j with
          | ret =>
            simp only [Except.ok.injEq] at e; subst e
            refine ⟨(.ret, { tm := tm, nt := nt, ro := ro, hp := putLp h2' hp.cnt { r with state := .exhausted, pending := some .ret } }), (hpre _).trans ?_, ?_⟩
            · rw [← hs.cnt, hc]; simp only [chk, k1, bnd, h4, h7', h8, hpd]
            · exact ⟨rfl, rfl, rfl, rfl, by rw [hpd] at hpx; exact hpx⟩
          | exit i =>
            simp only [Except.ok.injEq] at e; subst e
            refine ⟨(.exit i, { tm := tm, nt := nt, ro := ro, hp := putLp h2' hp.cnt { r with state := .exhausted, pending := some (.exit i) } }), (hpre _).trans ?_, ?_⟩
            · rw [← hs.cnt, hc]; simp only [chk, k1, bnd, h4, h7', h8, hpd]
            · exact ⟨rfl, rfl, rfl, rfl, by rw [hpd] at hpx; exact hpx⟩
end

theorem resCs_sub {En : Env} {tm : Tr Value} {a b : Hp} (h : HSub a b) : ∀ {rs : List ResultVar} {vs : List Value}, resCs En tm a rs = .ok vs → resCs En tm b rs = .ok vs
  | [], vs, e => e
  | r :: rs, vs, e => by
    simp only [resCs] at e ⊢
    refine bnd_mono (fun v hv => ?_) (fun v r' h' => bnd_mono (fun vs hvs => resCs_sub h hvs) (fun _ _ h => h) h') e
    cases r with
    | tmp t => exact hv
    | cell x t =>
      simp only [resC] at hv ⊢
      refine bnd_mono (fun d hd => hd) (fun d r' h' => ?_) hv
      split at h'
      · exact ldv_sub h h'
      · cases h'
theorem callW_sub {En : Env} {ev ev' : Evl} (hV : EvS ev ev') {f : Nat} {args : List Value} {a b : Hp} (h : HSub a b) {q : Value × Hp} (e : callW En ev f args a = .ok q) : ∃ q', callW En ev' f args b = .ok q' ∧ q.1 = q'.1 ∧ HSub q.2 q'.2 := by
  unfold callW at e ⊢
  obtain ⟨fn, h1, e⟩ := bnd_ok e
  obtain ⟨h2, e⟩ := chk_ok e
  obtain ⟨⟨x, s⟩, h3, e⟩ := bnd_ok e
  obtain ⟨⟨x', s'⟩, k1, k2, k3⟩ := hV _ { tm := Tr.ofList args, nt := fn.ntmps, ro := none, hp := a } { tm := Tr.ofList args, nt := fn.ntmps, ro := none, hp := b } _ ⟨rfl, rfl, rfl, h⟩ h3
  simp only at k2 k3; subst k2
  simp only [h1, bnd, h2, chk, k1]
  cases x with
  | exit i => cases e
  | normal =>
    obtain ⟨vs, h4, e⟩ := bnd_ok e
    simp only [Except.ok.injEq] at e; subst e
    have := resCs_sub k3.hp h4
    rw [k3.tm] at this
    simp only [this]
    exact ⟨_, rfl, rfl, k3.hp⟩
  | ret =>
    obtain ⟨vs, h4, e⟩ := bnd_ok e
    simp only [Except.ok.injEq] at e; subst e
    have := resCs_sub k3.hp h4
    rw [k3.tm] at this
    simp only [this]
    exact ⟨_, rfl, rfl, k3.hp⟩
theorem endRd_sub {a b : Hp} (h : HSub a b) {l : Nat} {st : LoopState} {p : Option Jm} {v : Bool} {q : Value × Hp} (e : endRd a l st p v = .ok q) : ∃ q', endRd b l st p v = .ok q' ∧ q.1 = q'.1 ∧ HSub q.2 q'.2 := by
  unfold endRd at e ⊢
  obtain ⟨r, h1, e⟩ := bnd_ok e
  simp only [Except.ok.injEq] at e; subst e
  simp only [getLp_sub h h1, bnd]
  exact ⟨_, rfl, rfl, putLp_sub h _ _⟩
theorem yieldW_sub {ev ev' : Evl} (hV : EvS ev ev') {l : Nat} {args : List Value} {a b : Hp} (h : HSub a b) {q : Value × Hp} (e : yieldW ev l args a = .ok q) : ∃ q', yieldW ev' l args b = .ok q' ∧ q.1 = q'.1 ∧ HSub q.2 q'.2 := by
  unfold yieldW at e ⊢
  obtain ⟨r, h1, e⟩ := bnd_ok e
  obtain ⟨tm, h2, e⟩ := bnd_ok e
  obtain ⟨⟨x, s⟩, h3, e⟩ := bnd_ok e
  obtain ⟨⟨x', s'⟩, k1, k2, k3⟩ := hV _ { tm, nt := r.nt, ro := some l, hp := a } { tm, nt := r.nt, ro := some l, hp := b } _ ⟨rfl, rfl, rfl, h⟩ h3
  simp only at k2 k3; subst k2
  simp only [getLp_sub h h1, bnd, h2, k1]
  cases x with
  | exit i => cases e
  | ret => cases e
  | normal =>
    obtain ⟨r1, h4, e⟩ := bnd_ok e
    obtain ⟨h5, e⟩ := chk_ok e
    obtain ⟨⟨y, s2⟩, h6, e⟩ := bnd_ok e
    obtain ⟨⟨y', s2'⟩, k4, k5, k6⟩ := hV _ { s with hp := putLp s.hp l { r1 with state := .busy } } { s' with hp := putLp s'.hp l { r1 with state := .busy } } _ ⟨k3.tm, k3.nt, k3.ro, putLp_sub k3.hp _ _⟩ h6
    simp only at k5 k6; subst k5
    simp only [getLp_sub k3.hp h4, h5, chk, k4]
    cases y with
    | normal => exact endRd_sub k6.hp e
    | ret => exact endRd_sub k6.hp e
    | exit i => exact endRd_sub k6.hp e
theorem runRs_sub {En : Env} {ev ev' : Evl} (hV : EvS ev ev') : OrS (runRs En ev) (runRs En ev') := by
  intro x y q hs e
  cases x with
  | val v h =>
    cases y with
    | val v' h' =>
      simp only [runRs, Except.ok.injEq] at e; subst e
      exact ⟨_, rfl, hs.1, hs.2⟩
    | _ => exact hs.elim
  | enter f args h =>
    cases y with
    | enter f' args' h' => obtain ⟨rfl, rfl, hh⟩ := hs; exact callW_sub hV hh e
    | _ => exact hs.elim
  | yld l args h =>
    cases y with
    | yld l' args' h' => obtain ⟨rfl, rfl, hh⟩ := hs; exact yieldW_sub hV hh e
    | _ => exact hs.elim
theorem evN_sub (En : Env) : ∀ N, EvS (evN En N) (evN En N)
  | 0 => fun _ _ _ _ _ e => by cases e
  | N + 1 => fun _ _ _ _ hs e => by
    have e : evStep En (evN En N) _ _ = .ok _ := e
    rw [evStepG_eq] at e
    obtain ⟨q', k1, k2⟩ := evStepG_sub (runRs_sub (evN_sub En N)) (evN_sub En N) _ _ _ _ hs e
    refine ⟨q', ?_, k2⟩
    show evStep En (evN En N) _ _ = _
    rw [evStepG_eq]; exact k1
end Go.Ev
