/-
  By an AI agent: a part of the proof of this claim; what is proved stands in the text YtjinlihckmgioaaGreatDoorMain.
-/
import Derived.Test.YtjinlihckmgioaaGreatDoorEvDen3
set_option linter.unusedVariables false
set_option linter.unusedSimpArgs false
set_option linter.unusedSectionVars false
set_option linter.unusedVariables false
set_option linter.unusedSimpArgs false
namespace Go.Ev
open Go

theorem opsW_of_opsT {En : Env} {ev : Evl} {ops : List Oper} : ∀ (l : List Oper) {id : Nat} {s s' : St} {tr : List T3}, opsT En ev ops id l s = .ok (tr, s') → opsW En ev ops id l s = .ok s'
  | [], id, s, s', tr, e => by
    simp only [opsT, Except.ok.injEq, Prod.mk.injEq] at e
    simp only [opsW, e.2]
  | o :: l, id, s, s', tr, e => by
    simp only [opsT] at e
    obtain ⟨⟨w, v, s1⟩, h1, e1⟩ := bnd_ok e
    obtain ⟨⟨tr1, s2⟩, h2, e2⟩ := bnd_ok e1
    simp only [Except.ok.injEq, Prod.mk.injEq] at e2
    simp only [opsW, h1, bnd]
    rw [← e2.2]
    exact opsW_of_opsT l h2

def TrR : List Tre → List T3 → Prop
  | [], [] => True
  | a :: as, b :: bs => (HSub a.h b.s.hp ∧ KnA a.m b.s.tm ∧ b.wd = a.wd ∧ b.v = a.v) ∧ TrR as bs
  | _, _ => False

theorem TrR.get : ∀ {a : List Tre} {b : List T3}, TrR a b → ∀ i : Nat, (a[i]? = none ∧ b[i]? = none) ∨ ∃ x y, a[i]? = some x ∧ b[i]? = some y ∧ HSub x.h y.s.hp ∧ KnA x.m y.s.tm ∧ y.wd = x.wd ∧ y.v = x.v
  | [], [], _, i => .inl ⟨by simp, by simp⟩
  | a :: as, b :: bs, h, 0 => .inr ⟨a, b, rfl, rfl, h.1⟩
  | a :: as, b :: bs, h, i + 1 => by simpa using TrR.get h.2 i
  | [], _ :: _, h, _ => h.elim
  | _ :: _, [], h, _ => h.elim

section
variable {R : Type} {En : Env} {orc : Orc} {N : Nat} (hO : OrS orc (runRs En (evN En N))) {gops : List Oper}
include hO

theorem denOp_ok {id : Nat} {o : Oper} {m : AL} {s : St} {h : Hp} (hh : HSub h s.hp) (hm : KnA m s.tm) {k : Bool → Value → AL → Hp → E R} {r : R} (e : denOp En s.nt gops orc id o m h k = .ok r) :
    ∃ w v s' h', opW En (evN En N) gops id o s = .ok (w, v, s') ∧ KnA (putA m o.dst v) s'.tm ∧ s'.nt = s.nt ∧ s'.ro = s.ro ∧ HSub h' s'.hp ∧ k w v (putA m o.dst v) h' = .ok r := by
  unfold denOp at e
  split at e
  · cases e
  · rename_i hd
    have put : ∀ (v : Value) (h' : Hp), ∃ s', putD s o.dst v h' = .ok s' ∧ KnA (putA m o.dst v) s'.tm ∧ s'.nt = s.nt ∧ s'.ro = s.ro ∧ s'.hp = h' := by
      intro v h'
      unfold putD
      cases hdst : o.dst with
      | none => exact ⟨_, rfl, hm, rfl, rfl, rfl⟩
      | some d =>
        rw [hdst] at hd
        simp only [dstOk, Bool.and_eq_true] at hd
        have h2 := blt_true hd.2
        have hp := pow40b
        simp only [hd.1, chk]
        exact ⟨_, rfl, hm.put (by omega), rfl, rfl, rfl⟩
    have run : ∀ (v : Value) (h' : Hp), wantedC gops s.tm o = .ok true → DidO En N id s.tm h o.op v h' → ∃ s', opW En (evN En N) gops id o s = .ok (true, v, s') ∧ KnA (putA m o.dst v) s'.tm ∧ s'.nt = s.nt ∧ s'.ro = s.ro ∧ HSub h' s'.hp := by
      intro v h' hw hdid
      obtain ⟨rs, hp', h1, h2, h5⟩ := hdid s.hp hh
      obtain ⟨s', h3, h4, h6, h7, h8⟩ := put v hp'
      refine ⟨s', ?_, h4, h6, h7, by rw [h8]; exact h5⟩
      have h1' : cop En id s.tm s.hp o = .ok rs := h1
      simp only [opW, hw, bnd, h1', h2, h3]
    split at e
    · rename_i hg
      obtain ⟨v, h', h1, e⟩ := denRun_ok hO hm e
      obtain ⟨s', h2, h3, h4, h5, h6⟩ := run v h' (by simp [wantedC, hg]) h1
      exact ⟨true, v, s', h', h2, h3, h4, h5, h6, e⟩
    · rename_i j want hg
      split at e
      · cases e
      · rename_i t ht
        split at e
        · cases e
        · rename_i gv hgv
          have hev := hm t gv hgv
          simp only [bndF_eq] at e
          obtain ⟨w, hw, e⟩ := bnd_ok e
          obtain ⟨q, hq, e⟩ := bnd_ok e
          have hwc : wantedC gops s.tm o = .ok w := by
            unfold gdT at ht
            simp only [wantedC, hg, yieldedC, ht]
            unfold wantV at hw
            simp only [evo] at hev
            split at hw
            · rename_i b
              cases hgt : s.tm.get t with
              | none => rw [hgt] at hev; cases hev
              | some v0 =>
                rw [hgt] at hev
                simp only at hev
                subst hev
                simp only [Except.ok.injEq] at hw
                simp only [bnd, Except.ok.injEq]
                rw [← hw]
                cases want <;> cases b <;> rfl
            · simp only [Except.ok.injEq] at hw
              cases hgt : s.tm.get t with
              | none => simp only [bnd]; rw [hw]
              | some v0 =>
                rw [hgt] at hev
                simp only at hev
                subst hev
                simp only [bnd]; rw [hw]
            · cases hw
          cases w with
          | false =>
            simp only [Except.ok.injEq] at hq
            subst hq
            obtain ⟨s', h3, h4, h5, h6, h7⟩ := put undef s.hp
            refine ⟨false, undef, s', h, ?_, h4, h5, h6, by rw [h7]; exact hh, e⟩
            simp only [opW, hwc, bnd, h3]
          | true =>
            simp only at hq
            obtain ⟨v, h', h1, hq⟩ := denRun_ok hO hm hq
            simp only [Except.ok.injEq] at hq
            subst hq
            obtain ⟨s', h2, h3, h4, h5, h6⟩ := run v h' hwc h1
            exact ⟨true, v, s', h', h2, h3, h4, h5, h6, e⟩

theorem denOps_ok : ∀ (l : List Oper) {id : Nat} {m : AL} {s : St} {h : Hp} (hh : HSub h s.hp) (hm : KnA m s.tm) {k : List Tre → AL → Hp → E R} {r : R} (e : denOps En s.nt gops orc id l m h k = .ok r),
    ∃ tr trT m' s' h', opsT En (evN En N) gops id l s = .ok (trT, s') ∧ TrR tr trT ∧ KnA m' s'.tm ∧ s'.nt = s.nt ∧ s'.ro = s.ro ∧ HSub h' s'.hp ∧ k tr m' h' = .ok r
  | [], id, m, s, h, hh, hm, k, r, e => ⟨[], [], m, s, h, rfl, trivial, hm, rfl, rfl, hh, e⟩
  | o :: l, id, m, s, h, hh, hm, k, r, e => by
    unfold denOps at e
    obtain ⟨w, v, s1, h1', h1, h2, h3, h4, hh1, e⟩ := denOp_ok hO hh hm e
    rw [← h3] at e
    obtain ⟨tr, trT, m', s', h', g1, g2, g3, g4, g5, g6, e⟩ := denOps_ok l hh1 h2 e
    refine ⟨⟨m, h, w, v⟩ :: tr, ⟨s, w, v⟩ :: trT, m', s', h', ?_, (⟨⟨hh, hm, rfl, rfl⟩, g2⟩ : TrR (⟨m, h, w, v⟩ :: tr) (⟨s, w, v⟩ :: trT)), g3, g4.trans h3, g5.trans h4, g6, e⟩
    simp only [opsT, h1, bnd]
    rw [show id + 1 = Nat.succ id from rfl, g1]

omit hO in
theorem chksK_ok {id : Nat} {ops : List Oper} {tr : List Tre} {trT : List T3} {sf : St} {hf : Hp} (hh : HSub hf sf.hp) (hT : TrR tr trT) : ∀ {prs : List (Nat × Nat)} {k : E R} {r : R}, chksK En id ops tr hf prs k = .ok r → chks En id ops trT sf prs = true ∧ k = .ok r
  | [], k, r, e => ⟨rfl, e⟩
  | (i, j) :: ps, k, r, e => by
    unfold chksK at e
    split at e
    · rename_i t o ht ho
      split at e
      · rename_i m' hr
        obtain ⟨h1, e⟩ := ifK_ok e
        obtain ⟨h2, h3⟩ := chksK_ok (prs := ps) hh hT e
        refine ⟨?_, h3⟩
        have hp : ∀ j, HSub (hpD tr hf j) (hpAt trT sf j) := by
          intro j
          unfold hpAt hpD
          rcases hT.get j with ⟨q1, q2⟩ | ⟨x, y, q1, q2, q3, _⟩
          · simp only [q1, q2]; exact hh
          · simp only [q1, q2]; exact q3
        rcases hT.get i with ⟨q1, _⟩ | ⟨x, y, q1, q2, q3, q4, q5, q6⟩
        · rw [q1] at ht; cases ht
        · rw [q1] at ht; simp only [Option.some.injEq] at ht; subst ht
          have hc : chk1 En id ops trT sf i j = true := by
            unfold chk1
            simp only [q2, ho, q5, q6]
            unfold sameS at h1
            split at h1
            · rename_i hw; simp only [hw]
            · rename_i hw
              simp only [hw]
              have hx : ∀ h, cop En (id + i) y.s.tm h o = cop En (id + i) (tmOf m') h (oOf o.op) := fun h => cop_ext (tm := y.s.tm) (tm' := tmOf m') (fun z hz => (resA_evo q4 hr z hz).symm)
              have key : ∀ J, (match cop En (Nat.add id i) (tmOf m') (hpD tr hf J) (oOf o.op) with | .ok (.val v' _) => veqB v' x.v | _ => false) = true → (match cop En (id + i) y.s.tm (hpAt trT sf J) o with | .ok (.val v' _) => veqB v' x.v | _ => false) = true := by
                intro J hJ
                split at hJ
                · rename_i v0 h0 hc0
                  obtain ⟨rs', k1, k2⟩ := cop_sub (hp J) _ hc0
                  cases rs' with
                  | val v' h' =>
                    rw [hx, show id + i = Nat.add id i from rfl, k1]
                    simp only
                    rw [← k2.1]; exact hJ
                  | _ => exact k2.elim
                · cases hJ
              cases hb : Nat.blt i j <;> rw [hb] at h1 <;> simp only at h1 ⊢ <;> exact key _ h1
          simp only [chks, hc, h2]
      · cases e
    · cases e

omit hO in
theorem outK_ok {m : AL} {tm : Tr Value} (hm : KnA m tm) : ∀ {ps : List Nat} {k : List Value → E R} {r : R}, outK m ps k = .ok r → k (ps.map fun p => evo tm (.tmp p)) = .ok r
  | [], k, r, e => e
  | p :: ps, k, r, e => by
    unfold outK at e
    split at e
    · rename_i v hv
      have := outK_ok (ps := ps) hm e
      rw [List.map_cons, hm p v hv]
      exact this
    · cases e
end

def FrR {F : Type} (T : FrT F) (ps : List Nat) (fr : F) (tm : Tr Value) : Prop := T.toL fr = ps.map fun p => evo tm (.tmp p)

theorem lookA_zip (f : Nat → Value) : ∀ (ps : List Nat) {t : Nat} {v : Value}, lookA (ps.zip (ps.map f)) t = some v → f t = v
  | [], t, v, e => by cases e
  | p :: ps, t, v, e => by
    simp only [List.map_cons, List.zip_cons_cons, lookA] at e
    cases hb : Nat.beq p t with
    | true =>
      rw [hb] at e
      simp only [Option.some.injEq] at e
      rw [← Nat.eq_of_beq_eq_true hb]; exact e
    | false =>
      rw [hb] at e
      exact lookA_zip f ps e

theorem denReg_ok {F : Type} {En : Env} {orc : Orc} {N : Nat} (hO : OrS orc (runRs En (evN En N))) {T : FrT F} {ps : List Nat} (hn : ps.length = T.n) {s : St} {fr fr' : F} (hF : FrR T ps fr s.tm) {ops : List Oper} {n : Nat} {prs : List (Nat × Nat)} {h h' : Hp} (hh : HSub h s.hp)
    (e : denReg En T ps s.nt ops n prs orc fr h = .ok (fr', h')) :
    ∃ s', evStep En (evN En N) (.drawn ops n prs) s = .ok (.normal, s') ∧ (prs = [] → evStep En (evN En N) (.region ops n) s = .ok (.normal, s')) ∧ FrR T ps fr' s'.tm ∧ s'.nt = s.nt ∧ s'.ro = s.ro ∧ HSub h' s'.hp := by
  unfold denReg at e
  obtain ⟨hc, e⟩ := ifK_ok e
  have hk : KnA (ps.zip (T.toL fr)) (bump s n).tm := by
    intro t v h
    rw [hF] at h
    exact lookA_zip (fun p => evo s.tm (.tmp p)) ps h
  rw [hh.cnt] at hc e
  have hhb : HSub { obs := h.obs, cnt := Nat.add s.hp.cnt n, fams := h.fams } (bump s n).hp := ⟨rfl, hh.obs, hh.fams⟩
  obtain ⟨tr, trT, m', s', h2', h1, h2, h3, h4, h5, h6, e⟩ := denOps_ok (s := bump s n) hO ops hhb hk e
  obtain ⟨g1, e⟩ := chksK_ok h6 h2 e
  have e := outK_ok h3 e
  simp only [Except.ok.injEq, Prod.mk.injEq] at e
  have hw := opsW_of_opsT ops h1
  refine ⟨s', ?_, ?_, ?_, h4, h5, by rw [← e.2]; exact h6⟩
  · have hc : Nat.blt (s.hp.cnt + n) maxCnt = true := hc
    cases prs with
    | nil => simp only [evStep, hc, chk, hw, bnd]
    | cons p ps => simp only [evStep, hc, chk, h1, bnd, g1]
  · intro _
    have hc : Nat.blt (s.hp.cnt + n) maxCnt = true := hc
    simp only [evStep, hc, chk, hw, bnd]
  · unfold FrR
    rw [← e.1]
    exact T.ok _ (by simp [hn])
end Go.Ev
