/-
  By an AI agent: a part of the proof of this claim; what is proved stands in the text YtjinlihckmgioaaGreatDoorMain.
-/
import Derived.Test.YtjinlihckmgioaaGreatDoorEvC5
import Derived.RangeFuncNested
import Derived.Scope
set_option linter.unusedVariables false
set_option linter.unusedSimpArgs false
set_option linter.unusedSectionVars false
set_option linter.unusedVariables false
set_option linter.unusedSimpArgs false
set_option linter.unusedSectionVars false
namespace Go.Ev
open Go

theorem stepR_scope {P : Program} {b : Frame} {a : Act} {k : List Item} {cs : List Frame} {w : World} {c : Code} : step P (lone (b.atR a (.code (.scope c) :: k)) cs w) = .next (lone (b.atR a (.code c :: .inScope c :: k)) cs w) :=
  step_lone_go (by simp [stepG, stepG.exec, Frame.atR])
theorem stepR_inScope {P : Program} {b : Frame} {a : Act} {k : List Item} {cs : List Frame} {w : World} {c : Code} : step P (lone (b.atR a (.inScope c :: k)) cs w) = .next (lone (b.atR a k) cs w) :=
  step_lone_go (by simp [stepG, stepG.exec, Frame.atR])

/-- A scope through which the run goes without a jump to a label. -/
theorem wpIn_scope {F : Fence} {n : Nat} {P : Program} {Q : Exit → Act → World → Prop} {a : Act} {w : World} {c : Code} (h : c.wpIn F n P (Exit.noGoto Q) a w) : (Code.scope c).wpIn F n P Q a w := by
  intro b k cs hro hb hr
  have h0 : (lone (b.atR a (.code (.scope c) :: k)) cs w).fenced P F := fenced_calm hb hr rfl
  obtain ⟨e, a₁, w₁, hq, harr⟩ := h b (.inScope c :: k) cs hro hb hr
  cases e with
  | normal => exact ⟨.normal, a₁, w₁, hq, .head h0 stepR_scope (StepsIn.trans harr (.one (fenced_calm hb hr rfl) stepR_inScope))⟩
  | exit id =>
    have hx : exitTo id (.inScope c :: k) = exitTo id k := by simp [exitTo]
    exact ⟨.exit id, a₁, w₁, hq, fun k' hk => .head h0 stepR_scope (harr.1 k' (by rw [hx]; exact hk)),
      fun hr' hk => let ⟨k₁, h1, h2⟩ := harr.2 hr' (by rw [hx]; exact hk); ⟨k₁, h1, .head h0 stepR_scope h2⟩⟩
  | goto l => exact hq.elim
  | ret => exact ⟨_, a₁, w₁, hq, .of_steps (.one h0 stepR_scope) harr⟩
  | panic ch => exact ⟨_, a₁, w₁, hq, .of_steps (.one h0 stepR_scope) harr⟩
  | outgrown => exact ⟨_, a₁, w₁, hq, .of_steps (.one h0 stepR_scope) harr⟩

theorem Pst.refl {base : Nat} {μ : Mu} {s : St} {a : Act} {w : World} (hr : HW μ base s.hp w) (ht : TmR μ s.tm s.nt a.tmps) : Pst base μ s a w s μ a w :=
  ⟨hr, .refl _ _ _ _, ht, rfl, rfl, [], by simp, .nil, by simp⟩

theorem Pst.trans {base : Nat} {μ μ1 μ2 : Mu} {s s1 s2 : St} {a a1 a2 : Act} {w w1 w2 : World} (hr : HW μ base s.hp w) (p : Pst base μ s a w s1 μ1 a1 w1) (q : Pst base μ1 s1 a1 w1 s2 μ2 a2 w2) : Pst base μ s a w s2 μ2 a2 w2 := by
  obtain ⟨Ds1, e1, n1, h1⟩ := p.df
  obtain ⟨Ds2, e2, n2, h2⟩ := q.df
  refine ⟨q.hw, p.mv.then hr q.mv, q.tm, q.nt.trans p.nt, q.ro.trans p.ro, Ds2 ++ Ds1, by rw [e2, e1]; simp, ?_, ?_⟩
  · refine List.nodup_append.2 ⟨n2, n1, fun x hx y hy e => ?_⟩
    have g1 := (h2 x hx).1
    have g2 := (Array.getElem?_eq_some_iff.1 (h1 y hy).2.1).1
    omega
  · intro D hD
    rcases List.mem_append.1 hD with h | h
    · exact ⟨Nat.le_trans p.mv.size (h2 D h).1, (h2 D h).2⟩
    · exact ⟨(h1 D h).1, (h1 D h).2.mv q.mv (fun hx => (p.hw.oldm hx).1) (fun _ h => h.elim)⟩

theorem least {p : Nat → Prop} : ∀ n, p n → ∃ m, p m ∧ ∀ k, p k → m ≤ k := by
  intro n
  induction n using Nat.strongRecOn with
  | _ n ih =>
    intro hn
    by_cases h : ∃ k, k < n ∧ p k
    · obtain ⟨k, hk, hp⟩ := h; exact ih k hk hp
    · exact ⟨n, hn, fun k hk => by
        rcases Nat.lt_or_ge k n with h' | h'
        · exact absurd ⟨k, h', hk⟩ h
        · exact h'⟩

open Classical in
noncomputable def leastOf (p : Nat → Act → World → Prop) (a : Act) (w : World) : Nat :=
  if h : ∃ m, p m a w ∧ ∀ k, p k a w → m ≤ k then h.choose else 0

theorem leastOf_spec {p : Nat → Act → World → Prop} {a : Act} {w : World} (h : ∃ n, p n a w) : p (leastOf p a w) a w ∧ ∀ k, p k a w → leastOf p a w ≤ k := by
  obtain ⟨n, hn⟩ := h
  have := least (p := fun n => p n a w) n hn
  unfold leastOf
  rw [dif_pos this]
  exact this.choose_spec

/-- A new record of a loop. -/
theorem alloc_loop {μ : Mu} {base : Nat} {h : Hp} {w : World} (hr : HW μ base h w) (hb : base ≤ w.heap.size) (hc : h.cnt < maxCnt) {r : Lp} {r' : Loop} (hR : LoopR μ r r') :
    HW (μ.add h.cnt w.heap.size 0 0) base { putLp h h.cnt r with cnt := h.cnt + 1 } (w.alloc (.loop r')) ∧
      Mv (fun _ => False) μ h w (μ.add h.cnt w.heap.size 0 0) { putLp h h.cnt r with cnt := h.cnt + 1 } (w.alloc (.loop r')) := by
  have hp40 := pow40
  have hc40 : h.cnt + 1 < 2 ^ 40 := by omega
  obtain ⟨hf1, hf2⟩ := hr.fr (Nat.le_refl h.cnt)
  have hle : μ.le (μ.add h.cnt w.heap.size 0 0) := Mu.le_add hf2 hr.fresh
  have hput : ∀ x, (putLp h h.cnt r).obs.get x = if x = h.cnt then some (.loop r) else h.obs.get x := fun x => Tr.get_put _ _ _ _ hc40
  have hobs : ∀ x ob', (putLp h h.cnt r).obs.get x = some ob' → (x = h.cnt ∧ ob' = .loop r) ∨ (x ≠ h.cnt ∧ h.obs.get x = some ob') := by
    intro x ob' hx
    rw [hput] at hx
    split at hx
    · simp only [Option.some.injEq] at hx; exact .inl ⟨by assumption, hx.symm⟩
    · exact .inr ⟨by assumption, hx⟩
  refine ⟨⟨HR.alloc hr.toHR hf2 hb rfl hobs (by simp [putLp]) (by simp [putLp]) (by simp only [putLp]; omega) (o := .loop r') ⟨hR.1.mono hle, hR.2.1, by rw [hle.ty]; exact hR.2.2.1, by rw [hle.ty]; exact hR.2.2.2.1, hR.2.2.2.2⟩ rfl (fun {b k f} hb' hk => ?_), fun f st hs => ⟨(hr.fo f st hs).1, fun c s hc' => ?_⟩⟩,
    hle, by simp [putLp], fun x hx _ hg => ?_, fun x B h1 h2 => ?_, by simp, fun B hB _ => heap_alloc_old w _ B hB, rfl, rfl, rfl⟩
  · rcases hobs _ _ hb' with ⟨rfl, he⟩ | ⟨_, ho⟩
    · cases he
    · obtain ⟨q1, st, q2, q3⟩ := hr.fam ho hk
      exact ⟨by simp only [putLp]; omega, st, q2, q3⟩
  · have := (hr.fo f st hs).2 c s hc'; simp only [putLp]; omega
  · show (putLp h h.cnt r).obs.get x = none
    rw [hput, if_neg (by omega)]; exact hg
  · by_cases e : x = h.cnt
    · subst e
      simp only [Mu.add, if_true, Option.some.injEq] at h2
      subst h2
      exact ⟨.inr (Nat.le_refl _), .inl (Nat.le_refl _)⟩
    · simp only [Mu.add, e, if_false] at h2
      rw [h1] at h2; cases h2

section
variable {P : Program} {En : Env} (hE : EnvOk P En)
include hE

theorem range_sound {ev : Evl} (hev : SoundE P En ev) {g : Operand} {ps : Array Tmp} {assign body : Code} {s s' : St} {e : Ex} (h : evStep En ev (toCd En.ty (.rangeFunc g ps assign body)) s = .ok (e, s')) {μ : Mu} {base : Nat} {a : Act} {w : World} {r : Option Nat} (hr : HW μ base s.hp w) (hty : μ.ty = En.ty)
    (hb : base ≤ w.heap.size) (ht : TmR μ s.tm s.nt a.tmps) (hro : RoR μ s.ro r) {Q : Exit → Act → World → Prop} (hQ : ∀ μ' a' w', Pst base μ s a w s' μ' a' w' → Q (exOf e) a' w') : (Code.rangeFunc g ps assign body).wpIn (Fw r) 0 P Q a w := by
  simp only [toCd, evStep] at h
  obtain ⟨_, hro1, h1⟩ := bnd_ok h
  clear h
  obtain ⟨hcnt, h2⟩ := chk_ok h1
  clear h1
  have hcnt := blt_true hcnt
  obtain ⟨rs, hrs, h3⟩ := bnd_ok h2
  clear h2
  refine wpIn_rangeFunc ?_
  intro fn _
  -- the record is laid
  obtain ⟨Ds, L, w0, lp, henter, hw0, hm0, hL, hlp, hDs⟩ : ∃ (Ds : List Nat) (L : Nat) (w0 : World) (lp : Loop),
      (Instr.enterLoop fn a.tmps ps assign body r).run P w = .ok (L, Ds.map mark) (w0.alloc (.loop lp)) ∧ HW μ base s.hp w0 ∧ Mv (fun _ => False) μ s.hp w μ s.hp w0 ∧ L = w0.heap.size ∧
      LoopR μ { tm := s.tm, nt := s.nt, params := ps.toList, assign := toCd En.ty assign, body := toCd En.ty body, state := .ready, pending := none } lp ∧
      (Ds.Nodup ∧ ∀ D ∈ Ds, w.heap.size ≤ D ∧ Idle μ s.hp w0 D) := by
    cases r with
    | none =>
      refine ⟨[w.heap.size], w.heap.size + 1, w.alloc (.deferred (some [])), _, run_enterLoop_outer fn a.tmps ps assign body, hr.push rfl, .push rfl rfl rfl rfl, by simp, ⟨ht, rfl, by rw [hty], by rw [hty], rfl, rfl⟩, by simp, ?_⟩
      intro D hD
      simp only [List.mem_singleton] at hD
      subst hD
      exact ⟨Nat.le_refl _, World.alloc_heap_new w _, fun b ob hB hg => by have := (hr.oldm hB).2.2; omega⟩
    | some L0 =>
      cases hsr : s.ro with
      | none => rw [hsr] at hro; exact hro.elim
      | some l0 =>
        rw [hsr] at hro hro1
        simp only at hro1
        obtain ⟨r0, hr0, _⟩ := bnd_ok hro1
        obtain ⟨lp0, hlp0, _⟩ := hr.loop hr0 hro
        exact ⟨[], w.heap.size, w, _, run_enterLoop_inner hlp0 fn a.tmps ps assign body, hr, .refl _ _ _ _, rfl, ⟨ht, rfl, by rw [hty], by rw [hty], rfl, rfl⟩, .nil, by simp⟩
  subst hL
  have hb0 : base ≤ w0.heap.size := Nat.le_trans hb hm0.size
  obtain ⟨g1, g2⟩ := alloc_loop hw0 hb0 hcnt hlp
  obtain ⟨μ1, hμ1⟩ : ∃ μ1, μ1 = μ.add s.hp.cnt w0.heap.size 0 0 := ⟨_, rfl⟩
  rw [← hμ1] at g1 g2
  have hml : μ1.m s.hp.cnt = some w0.heap.size := by rw [hμ1]; simp [Mu.add]
  have hm1 := hm0.then hr g2
  have hty1 : μ1.ty = En.ty := hm1.le.ty.trans hty
  -- the call
  have hga := (evo_rel ht g).mono hm1.le
  unfold callC at hrs
  split at hrs
  · rename_i gf first captured hgv
    rw [hgv] at hga
    split at hrs
    · obtain ⟨vx, _, hrs1⟩ := bnd_ok hrs
      simp only [Except.ok.injEq] at hrs1
      subst hrs1
      cases h3
    obtain ⟨fd, hfd, hrs1⟩ := bnd_ok hrs
    simp only [Except.ok.injEq] at hrs1
    subst hrs1
    simp only at h3
    obtain ⟨fn2, c2, q1, q2, q3, _⟩ := hE.fn (opt_ok hfd)
    have hnb : fn2.body.isNone = false := by rw [q3]; rfl
    generalize hag : a.eval g = ag at hga
    cases hga with
    | func _ ha hcap =>
      rename_i a' c'
      obtain ⟨⟨vr, h'⟩, hcall, h4⟩ := bnd_ok h3
      clear h3
      obtain ⟨rc, hrc, h5⟩ := bnd_ok h4
      clear h4
      obtain ⟨hbusy, h6⟩ := chk_ok h5
      clear h5
      refine ⟨w0.heap.size, Ds.map mark, w0.alloc (.loop lp), { target := .fn (.func gf) c', args := a' ++ #[Value.func (.yield w0.heap.size) #[] #[]] }, w0.alloc (.loop lp), gf, (a'.toList ++ [Value.func (.yield w0.heap.size) #[] #[]] ++ c'.toList).toArray, w0.alloc (.loop lp), henter, ?_, fun _ _ => trivial, ?_, fun h => by simp at h, ?_⟩
      · simp only [resolve, hag]
        simp [Deferred.ofValue, Act.eval]
      · simp only [invoke, callFunc, Sem.run_bind, run_program, Result.andThen_ok, q1, q2, hnb, Bool.false_eq_true, if_false, Sem.run_pure]
        congr 2
        apply Array.ext'
        simp
      · refine call_sound hE hev hcall g1 hty1 (Nat.le_trans hb0 (by simp)) ((ha.app (.cons (.yield hml) .nil)).app hcap) ?_
        intro μ2 v2 w2 k1 k2 k3
        obtain ⟨lp2, hlp2, hR2⟩ := k1.loop hrc (k2.le.m hml)
        have hnb2 : lp2.state ≠ .busy := by
          rw [hR2.2.2.2.2.1]
          intro e; rw [e] at hbusy; cases hbusy
        obtain ⟨j1, j2⟩ := put_loop (r2 := { rc with state := .exhausted }) (r' := { lp2 with state := .exhausted }) k1 hrc (k2.le.m hml) ⟨hR2.1, hR2.2.1, hR2.2.2.1, hR2.2.2.2.1, rfl, hR2.2.2.2.2.2⟩
        have hm2 := hm1.then hr (k2.then g1 j2)
        have hpst : Pst base μ s a w { s with hp := putLp h' s.hp.cnt { rc with state := .exhausted } } μ2 { a with defers := Ds.map mark ++ a.defers } (w2.putObj w0.heap.size (.loop { lp2 with state := .exhausted })) := by
          refine ⟨j1, hm2, ht.mono hm2.le, rfl, rfl, Ds, rfl, hDs.1, fun D hD => ⟨(hDs.2 D hD).1, ?_⟩⟩
          have m2 := g2.then hw0 (k2.then g1 j2)
          exact (hDs.2 D hD).2.mv m2 (fun hx => (hw0.oldm hx).1) (fun _ h => h.elim)
        have hjump : (Instr.endLoop w0.heap.size).run P w2 = .ok (rc.pending.map Jm.code) (w2.putObj w0.heap.size (.loop { lp2 with state := .exhausted })) := by
          rw [run_endLoop hlp2 hnb2, hR2.2.2.2.2.2]
        refine ⟨_, _, hjump, ?_⟩
        cases hpend : rc.pending with
        | none =>
          rw [hpend] at h6
          simp only [Except.ok.injEq, Prod.mk.injEq] at h6
          obtain ⟨rfl, rfl⟩ := h6
          simp only [Option.map_none]
          exact hQ μ2 _ _ (by rw [hpend] at hpst; exact hpst)
        | some j =>
          rw [hpend] at h6
          cases j with
          | ret =>
            simp only [Except.ok.injEq, Prod.mk.injEq] at h6
            obtain ⟨rfl, rfl⟩ := h6
            simp only [Option.map_some, Jm.code]
            exact wpIn_ret (hQ μ2 _ _ (by rw [hpend] at hpst; exact hpst))
          | exit i =>
            simp only [Except.ok.injEq, Prod.mk.injEq] at h6
            obtain ⟨rfl, rfl⟩ := h6
            simp only [Option.map_some, Jm.code]
            exact wpIn_exit (hQ μ2 _ _ (by rw [hpend] at hpst; exact hpst))
  · simp only [Except.ok.injEq] at hrs; subst hrs; cases h3
  · cases hrs

/-- The evaluator is right. -/
theorem evN_sound : ∀ N, SoundE P En (evN En N) := by
  intro N
  induction N using Nat.strongRecOn with
  | _ N ih =>
    cases N with
    | zero => intro c s s' e h; cases h
    | succ N =>
      have hev := ih N (Nat.lt_succ_self N)
      intro c s s' e h μ base a w r hr hty hb ht hro Q hQ
      change evStep En (evN En N) (toCd En.ty c) s = .ok (e, s') at h
      cases c with
      | skip =>
        simp only [toCd, evStep, Except.ok.injEq, Prod.mk.injEq] at h
        obtain ⟨rfl, rfl⟩ := h
        exact wpIn_skip (hQ μ a w (.refl hr ht))
      | ret =>
        simp only [toCd, evStep, Except.ok.injEq, Prod.mk.injEq] at h
        obtain ⟨rfl, rfl⟩ := h
        exact wpIn_ret (hQ μ a w (.refl hr ht))
      | exit i =>
        simp only [toCd, evStep, Except.ok.injEq, Prod.mk.injEq] at h
        obtain ⟨rfl, rfl⟩ := h
        exact wpIn_exit (hQ μ a w (.refl hr ht))
      | seq x y =>
        simp only [toCd, evStep] at h
        obtain ⟨⟨e1, s1⟩, h1, h2⟩ := bnd_ok h
        refine wpIn_seq (hev x s s1 e1 h1 μ base a w r hr hty hb ht hro _ ?_)
        intro μ1 a1 w1 p
        cases e1 with
        | normal =>
          simp only [exOf, Exit.then] at h2 ⊢
          exact hev y s1 s' e h2 μ1 base a1 w1 r p.hw (p.mv.le.ty.trans hty) (Nat.le_trans hb p.mv.size) p.tm (by rw [p.ro]; exact hro.mono p.mv.le) Q fun μ2 a2 w2 q => hQ μ2 a2 w2 (p.trans hr q)
        | ret =>
          simp only [Except.ok.injEq, Prod.mk.injEq] at h2
          obtain ⟨rfl, rfl⟩ := h2
          exact hQ μ1 a1 w1 p
        | exit i =>
          simp only [Except.ok.injEq, Prod.mk.injEq] at h2
          obtain ⟨rfl, rfl⟩ := h2
          exact hQ μ1 a1 w1 p
      | cond c x y =>
        simp only [toCd, evStep] at h
        have hc := evo_rel ht c
        split at h
        · rename_i hv
          rw [hv] at hc
          generalize hcc : a.eval c = vc at hc
          cases hc
          exact wpIn_cond_true hcc (hev x s s' e h μ base a w r hr hty hb ht hro Q hQ)
        · rename_i hv
          rw [hv] at hc
          generalize hcc : a.eval c = vc at hc
          cases hc
          exact wpIn_cond_false hcc (hev y s s' e h μ base a w r hr hty hb ht hro Q hQ)
        · cases h
      | block i x =>
        simp only [toCd, evStep] at h
        obtain ⟨⟨e1, s1⟩, h1, h2⟩ := bnd_ok h
        refine wpIn_block (hev x s s1 e1 h1 μ base a w r hr hty hb ht hro _ ?_)
        intro μ1 a1 w1 p
        cases e1 with
        | normal =>
          simp only [Except.ok.injEq, Prod.mk.injEq] at h2
          obtain ⟨rfl, rfl⟩ := h2
          exact hQ μ1 a1 w1 p
        | ret =>
          simp only [Except.ok.injEq, Prod.mk.injEq] at h2
          obtain ⟨rfl, rfl⟩ := h2
          exact hQ μ1 a1 w1 p
        | exit j =>
          simp only at h2
          split at h2
          · rename_i hji
            have hji := Nat.eq_of_beq_eq_true hji
            simp only [Except.ok.injEq, Prod.mk.injEq] at h2
            obtain ⟨rfl, rfl⟩ := h2
            simp only [exOf, Exit.inBlock, hji, if_true]
            exact hQ μ1 a1 w1 p
          · rename_i hji
            have hji : j ≠ i := fun e => by rw [e] at hji; simp at hji
            simp only [Except.ok.injEq, Prod.mk.injEq] at h2
            obtain ⟨rfl, rfl⟩ := h2
            simp only [exOf, Exit.inBlock, hji, if_false]
            exact hQ μ1 a1 w1 p
      | loop x =>
        -- what is left to be seen, and the walk so far
        let Inv : Nat → Act → World → Prop := fun M a1 w1 => M ≤ N + 1 ∧ ∃ s1 μ1, evN En M (.loop (toCd En.ty x)) s1 = .ok (e, s') ∧ Pst base μ s a w s1 μ1 a1 w1
        have h0 : Inv (N + 1) a w := ⟨Nat.le_refl _, s, μ, h, .refl hr ht⟩
        refine wpIn_loop (fun a1 w1 => ∃ M, Inv M a1 w1) (leastOf Inv) ⟨_, h0⟩ ?_
        intro a1 w1 hI
        obtain ⟨hInv, hleast⟩ := leastOf_spec (p := Inv) hI
        obtain ⟨hM, s1, μ1, h1, p1⟩ := hInv
        generalize leastOf Inv a1 w1 = M at hM h1 hleast
        cases M with
        | zero => cases h1
        | succ M =>
          change evStep En (evN En M) (.loop (toCd En.ty x)) s1 = .ok (e, s') at h1
          simp only [evStep] at h1
          obtain ⟨⟨e2, s2⟩, h2, h3⟩ := bnd_ok h1
          refine ih M (by omega) x s1 s2 e2 h2 μ1 base a1 w1 r p1.hw (p1.mv.le.ty.trans hty) (Nat.le_trans hb p1.mv.size) p1.tm (by rw [p1.ro]; exact hro.mono p1.mv.le) _ ?_
          intro μ2 a2 w2 p2
          cases e2 with
          | normal =>
            simp only [exOf, Exit.then] at h3 ⊢
            have hI2 : Inv M a2 w2 := ⟨by omega, s2, μ2, h3, p1.trans hr p2⟩
            exact ⟨⟨M, hI2⟩, Nat.lt_of_le_of_lt ((leastOf_spec (p := Inv) ⟨M, hI2⟩).2 M hI2) (Nat.lt_succ_self M)⟩
          | ret =>
            simp only [Except.ok.injEq, Prod.mk.injEq] at h3
            obtain ⟨rfl, rfl⟩ := h3
            exact hQ μ2 a2 w2 (p1.trans hr p2)
          | exit i =>
            simp only [Except.ok.injEq, Prod.mk.injEq] at h3
            obtain ⟨rfl, rfl⟩ := h3
            exact hQ μ2 a2 w2 (p1.trans hr p2)
      | rangeFunc g ps assign body => exact range_sound hE hev h hr hty hb ht hro hQ
      | region id ops draw =>
        cases draw with
        | false =>
          simp only [toCd, evStep] at h
          obtain ⟨hc, h1⟩ := chk_ok h
          obtain ⟨s1, hs1, h2⟩ := bnd_ok h1
          simp only [Except.ok.injEq, Prod.mk.injEq] at h2
          obtain ⟨rfl, rfl⟩ := h2
          exact region_sound hE hev hc hs1 hr hty hb ht hQ
        | true => exact drawn_sound hE hev h hr hty hb ht hQ
      | scope x =>
        simp only [toCd, evStep] at h
        refine wpIn_scope (hev x s s' e h μ base a w r hr hty hb ht hro _ fun μ1 a1 w1 p => ?_)
        cases e <;> exact hQ μ1 a1 w1 p
      | label l =>
        simp only [toCd, evStep, Except.ok.injEq, Prod.mk.injEq] at h
        obtain ⟨rfl, rfl⟩ := h
        exact wpIn_label (hQ μ a w (.refl hr ht))
      | goto l => simp only [toCd, evStep, reduceCtorEq] at h
      | refuse y => simp only [toCd, evStep, reduceCtorEq] at h
end
end Go.Ev
