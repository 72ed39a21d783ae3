/-
  By an AI agent: a part of the proof of this claim; what is proved stands in the text YtjinlihckmgioaaGreatDoorMain.
-/
import Derived.Test.YtjinlihckmgioaaGreatDoorEvOp9
import Derived.Test.YtjinlihckmgioaaGreatDoorEvExt
set_option linter.unusedVariables false
set_option linter.unusedSimpArgs false
set_option linter.unusedSectionVars false
set_option linter.unusedVariables false
set_option linter.unusedSimpArgs false
set_option linter.unusedSectionVars false
namespace Go.Ev
open Go

theorem Did.ofV {id base : Nat} {μ : Mu} {h : Hp} {w : World} {P : Program} {rs : Rs} {s : Sem Value} (d : DidV id base μ h w rs (s.run P w)) : Sim P id base μ h w rs ((do pure (Next.value (← s)) : Sem Next).run P w) := by
  obtain ⟨v, h', μ', w', v', rfl, e2, hv, hr, hm⟩ := d
  refine ⟨μ', w', .value v', ?_, .inl ⟨v', rfl, hv⟩, hr, hm⟩
  rw [Sem.run_bind, e2]
  rfl

section
variable {P : Program} {En : Env} (hE : EnvOk P En) {id base : Nat} {μ : Mu} {h : Hp} {w : World} (hr : HW μ base h w) (hb : base ≤ w.heap.size)
include hE hr hb

theorem copy_sim {ts : Array TypeId} {type t0 et : TypeId} {de : TD} (hTe : TyOk P et de) (h0 : ts[0]? = some t0) (hst : P.underlying t0 = some (.slice et)) {sb : Option Addr} {dl dc : Nat} {src dst' src' : Value}
    (hd : VR μ (.slice sb dl dc) dst') (hs : VR μ src src') {sl : Nat} (hn : lenC src = .ok sl) {cs : List Value} (hcs : firstC h de.size (Nat.min sl dl) src = .ok cs) {rs : Rs}
    (e : (match sb with
        | none => .ok (.val (goInt (Nat.min sl dl)) h)
        | some a => bnd (wr h a.block a.off cs) fun h' => .ok (.val (goInt (Nat.min sl dl)) h')) = (.ok rs : E Rs)) :
    DidV id base μ h w rs ((Builtin.copy_ ts type #[dst', src']).run P w) := by
  have hnr := lenC_rel (P := P) (w := w) hs hn
  obtain ⟨cs', hcs', hcv⟩ := firstC_rel (P := P) hr hs hn (Nat.min_le_left _ _) hcs
  have hcl := firstC_len hn (Nat.min_le_left _ _) hcs
  have run : ∀ (b : Option Addr) (c : Nat) (w' : World), (match b with | some a => storeCells a cs'.toList | none => (pure () : Sem Unit)).run P w = .ok () w' →
      (Builtin.copy_ ts type #[.slice b dl c, src']).run P w = .ok (goInt (Nat.min sl dl)) w' := by
    intro b c w' hrun
    unfold Builtin.copy_
    simp only [h0, List.getElem?_toArray, List.getElem?_cons_zero, List.getElem?_cons_succ, Sem.run_bind, run_underlying hst, Result.andThen_ok, hnr, hTe.runSize, hcs']
    cases b with
    | none => simp only [Sem.run_pure, Result.ok.injEq] at hrun; obtain ⟨_, rfl⟩ := hrun; rfl
    | some a => simp only at hrun; simp only [Sem.run_bind, hrun, Result.andThen_ok, Sem.run_pure]
  cases sb with
  | none =>
    simp only [Except.ok.injEq] at e; subst e
    cases hd
    rw [run none dc w rfl]
    exact DidV.same hr (.int _ _)
  | some a =>
    simp only at e
    obtain ⟨h', hw, e1⟩ := bnd_ok e
    clear e
    simp only [Except.ok.injEq] at e1; subst e1
    rcases hd.sl_inv with ⟨b, B, off, rfl, hbB, rfl⟩ | ⟨b, B, off, es, c', rfl, hbB, hc, hsz, rfl⟩ | ⟨b, off, a', c', rfl, rfl, rfl, hsp, rfl⟩
    · obtain ⟨w', hrun, hr', hmv⟩ := wr_did (P := P) (id := id) hr hbB hcv hw
      rw [run (some ⟨B, off, none⟩) dc w' hrun]
      exact ⟨_, _, _, _, _, rfl, rfl, .int _ _, hr', hmv⟩
    · obtain ⟨w', hrun, hr', hmv⟩ := wr_did (P := P) (id := id) hr hbB hcv hw
      rw [run (some ⟨B, off, none⟩) c' w' hrun]
      exact ⟨_, _, _, _, _, rfl, rfl, .int _ _, hr', hmv⟩
    · have hnil : cs = [] := by rw [← List.length_eq_zero_iff, hcl]; simp
      subst hnil
      have hnil' : cs'.toList = [] := by
        have := hcv.length
        rw [← List.length_eq_zero_iff]; simpa using this.symm
      have hh : h' = h := by
        unfold wr at hw
        obtain ⟨k, hk, e1⟩ := bnd_ok hw
        obtain ⟨_, e2⟩ := chk_ok e1
        obtain ⟨_, e3⟩ := chk_ok e2
        simp only [Except.ok.injEq] at e3
        exact e3.symm
      subst hh
      rw [run (some a') c' w (by simp only [hnil']; rfl)]
      exact DidV.same hr (.int _ _)

theorem builtin_sim {b : Builtin} {ts : Array TypeId} {type : TypeId} {consts : Array Bool} {args args' : List Value} (ha : VRL μ args args') {rs : Rs} (e : builtinC En b ts args h = .ok rs) :
    Sim P id base μ h w rs ((builtin b ts type consts args'.toArray).run P w) := by
  unfold builtinC at e
  obtain ⟨t0, ht0, e1⟩ := bnd_ok e
  clear e
  obtain ⟨d, hd, e2⟩ := bnd_ok e1
  clear e1
  have h0 := opt_ok ht0
  have hT := hE.ty (opt_ok hd)
  split at e2
  · cases ha with
    | cons hx hs =>
      cases hs
      rename_i x'
      simp only [builtin]
      refine Did.ofV ?_
      split at e2
      · rename_i s hdd
        simp only [Except.ok.injEq] at e2; subst e2
        cases hx
        simp only [Builtin.len_, h0, List.getElem?_toArray, List.getElem?_cons_zero, Sem.run_bind, hT.runUnder, Result.andThen_ok, hdd, Sem.run_pure]
        exact DidV.same hr (.int _ _)
      · rename_i n _ hdd
        simp only [Except.ok.injEq] at e2; subst e2
        simp only [Builtin.len_, h0, List.getElem?_toArray, List.getElem?_cons_zero, Sem.run_bind, hT.runUnder, Result.andThen_ok, hdd, Sem.run_pure]
        exact DidV.same hr (.int _ _)
      · rename_i et sb n c hdd
        simp only [Except.ok.injEq] at e2; subst e2
        obtain ⟨sb', c', rfl⟩ : ∃ sb' c', x' = .slice sb' n c' := by
          cases hx <;> exact ⟨_, _, rfl⟩
        simp only [Builtin.len_, h0, List.getElem?_toArray, List.getElem?_cons_zero, Sem.run_bind, hT.runUnder, Result.andThen_ok, hdd, Sem.run_pure]
        exact DidV.same hr (.int _ _)
      · cases e2
  · cases ha with
    | cons hx hs =>
      cases hs
      rename_i x'
      simp only [builtin]
      refine Did.ofV ?_
      split at e2
      · rename_i et n c hdd
        simp only [Except.ok.injEq] at e2; subst e2
        cases hx
        simp only [Builtin.cap_, h0, List.getElem?_toArray, List.getElem?_cons_zero, Sem.run_bind, hT.runUnder, Result.andThen_ok, hdd, Sem.run_pure]
        exact DidV.same hr (.int _ _)
      · rename_i et bb oo n c hdd
        simp only [Except.ok.injEq] at e2; subst e2
        cases hx
        simp only [Builtin.cap_, h0, List.getElem?_toArray, List.getElem?_cons_zero, Sem.run_bind, hT.runUnder, Result.andThen_ok, hdd, Sem.run_pure]
        exact DidV.same hr (.int _ _)
      · cases e2
  · cases ha with
    | cons hx hs =>
      cases hs with
      | cons hy hs =>
        cases hs
        simp only [builtin]
        refine Did.ofV ?_
        split at e2
        · rename_i et hdd
          obtain ⟨de, hde, e3⟩ := bnd_ok e2
          clear e2
          have hTe := hE.ty (opt_ok hde)
          split at e3
          · rename_i hz
            refine append_sim hr hb hTe h0 (by rw [hT.under, hdd]) (fun xt hxt => ?_) hx hy e3
            rw [hxt] at hz
            simp only at hz
            cases hg : En.ty.get xt with
            | none => rw [hg] at hz; cases hz
            | some d1 =>
              rw [hg] at hz
              refine ⟨d1.desc, (hE.ty hg).under, fun k hk => ?_⟩
              simp only [hk] at hz
              cases hz
          · split at e3
            · rename_i t1 h1
              split at e3
              · rename_i d1 hd1
                split at e3
                · rename_i kx hkx
                  exact appendZ_sim hr hb hTe h0 (by rw [hT.under, hdd]) h1 (by rw [(hE.ty hd1).under, hkx]) hx hy e3
                · cases e3
              · cases e3
            · cases e3
        · cases e2
  · cases ha with
    | cons hx hs =>
      cases hs with
      | cons hy hs =>
        cases hs
        simp only [builtin]
        refine Did.ofV ?_
        split at e2
        · rename_i et sb dl dc hdd
          obtain ⟨de, hde, e3⟩ := bnd_ok e2
          clear e2
          have hTe := hE.ty (opt_ok hde)
          obtain ⟨sl, hsl, e4⟩ := bnd_ok e3
          clear e3
          obtain ⟨cs, hcs, e5⟩ := bnd_ok e4
          clear e4
          exact copy_sim hE hr hb hTe h0 (by rw [hT.under, hdd]) hx hy hsl hcs (by cases sb <;> exact e5)
        · cases e2
  · cases ha with
    | cons hx hs =>
      cases hs with
      | cons hy hs =>
        cases hs
        cases hx
        cases hy
        obtain ⟨hk, e3⟩ := chk_ok e2
        simp only [Except.ok.injEq] at e3; subst e3
        rename_i k a k' b'
        simp only [builtin]
        refine Did.ofV ?_
        have : (Builtin.min_ ts type [Value.int k a, Value.int k' b'].toArray).run P w = .ok (.int k (match ltF b' a with | true => b' | false => a)) w := by
          simp only [Builtin.min_, List.foldlM, Builtin.min2, Sem.run_bind, Sem.run_pure, Result.andThen_ok, ltF_eq]
          by_cases hh : b' < a <;> simp [hh]
        rw [this]
        exact DidV.same hr (.int _ _)
  · cases ha with
    | cons hx hs =>
      cases hs with
      | cons hy hs =>
        cases hs
        cases hx
        cases hy
        obtain ⟨hk, e3⟩ := chk_ok e2
        simp only [Except.ok.injEq] at e3; subst e3
        rename_i k a k' b'
        simp only [builtin]
        refine Did.ofV ?_
        have : (Builtin.max_ ts type [Value.int k a, Value.int k' b'].toArray).run P w = .ok (.int k (match ltF a b' with | true => b' | false => a)) w := by
          simp only [Builtin.max_, List.foldlM, Builtin.max2, Sem.run_bind, Sem.run_pure, Result.andThen_ok, ltF_eq]
          by_cases hh : a < b' <;> simp [hh]
        rw [this]
        exact DidV.same hr (.int _ _)
  · cases ha with
    | cons hx hs =>
      cases hs
      rename_i x'
      simp only [builtin]
      refine Did.ofV ?_
      split at e2
      · rename_i et n c hdd
        simp only [Except.ok.injEq] at e2; subst e2
        cases hx
        have : (Builtin.clear_ ts type [Value.slice none n c].toArray).run P w = .ok (.tuple #[]) w := by
          simp only [Builtin.clear_, h0, List.getElem?_toArray, List.getElem?_cons_zero, Sem.run_bind, hT.runUnder, Result.andThen_ok, hdd, Sem.run_pure]
        rw [this]
        exact DidV.same hr (.tuple .nil)
      · rename_i et a n c hdd
        obtain ⟨de, hde, e3⟩ := bnd_ok e2
        clear e2
        have hTe := hE.ty (opt_ok hde)
        obtain ⟨h', hw, e4⟩ := bnd_ok e3
        clear e3
        simp only [Except.ok.injEq] at e4; subst e4
        have hz : Builtin.zeroCells de.zv.cells n = (repl de.zero n).toArray := by
          apply Array.ext'
          unfold Builtin.zeroCells
          rw [range_repl rfl, hTe.cells]
        have run0 : ∀ (a' : Option Addr) (c' : Nat), (Builtin.clear_ ts type [Value.slice a' 0 c'].toArray).run P w = .ok (.tuple #[]) w := by
          intro a' c'
          cases a' <;> simp only [Builtin.clear_, h0, List.getElem?_toArray, List.getElem?_cons_zero, Sem.run_bind, hT.runUnder, Result.andThen_ok, hdd, Sem.run_pure]
        have run1 : ∀ (a' : Addr) (n c' : Nat) (w' : World), (storeCells a' (repl de.zero (n + 1))).run P w = .ok () w' → Builtin.zeroCells de.zv.cells (n + 1) = (repl de.zero (n + 1)).toArray → (Builtin.clear_ ts type [Value.slice (some a') (n + 1) c'].toArray).run P w = .ok (.tuple #[]) w' := by
          intro a' n c' w' h1 h2
          simp only [Builtin.clear_, h0, List.getElem?_toArray, List.getElem?_cons_zero, Sem.run_bind, hT.runUnder, Result.andThen_ok, hdd, Sem.run_pure, hTe.runZero, h2, h1]
        cases n with
        | zero =>
          have hh : h' = h := by
            unfold wr at hw
            obtain ⟨k, hk, e1⟩ := bnd_ok hw
            obtain ⟨_, e2⟩ := chk_ok e1
            obtain ⟨_, e3⟩ := chk_ok e2
            simp only [repl, Except.ok.injEq] at e3
            exact e3.symm
          subst hh
          obtain ⟨a', c', rfl⟩ : ∃ a' c', x' = .slice a' 0 c' := by
            rcases hx.sl_inv with ⟨b, B, off, rfl, hbB, rfl⟩ | ⟨b, B, off, es, c', rfl, hbB, hc, hsz, rfl⟩ | ⟨b, off, a', c', rfl, _, rfl, hsp, rfl⟩ <;> exact ⟨_, _, rfl⟩
          rw [run0]
          exact DidV.same hr (.tuple .nil)
        | succ n =>
          have hv := repl_rel μ hTe.plain (n + 1)
          rcases hx.sl_inv with ⟨b, B, off, rfl, hbB, rfl⟩ | ⟨b, B, off, es, c', rfl, hbB, hc, hsz, rfl⟩ | ⟨b, off, a', c', rfl, hn0, rfl, hsp, rfl⟩
          · obtain ⟨w', hrun, hr', hmv⟩ := wr_did (P := P) (id := id) hr hbB hv hw
            rw [run1 _ _ _ w' hrun hz]
            exact ⟨_, _, _, _, _, rfl, rfl, .tuple .nil, hr', hmv⟩
          · obtain ⟨w', hrun, hr', hmv⟩ := wr_did (P := P) (id := id) hr hbB hv hw
            rw [run1 _ _ _ w' hrun hz]
            exact ⟨_, _, _, _, _, rfl, rfl, .tuple .nil, hr', hmv⟩
          · omega
      · cases e2
  · cases e2

theorem callC_sim {f f' : Value} {args args' : List Value} (hf : VR μ f f') (ha : VRL μ args args') {rs : Rs} (e : callC En f args h = .ok rs) :
    Sim P id base μ h w rs ((do let d ← Deferred.ofValue f' args'.toArray; invoke d.target d.args : Sem Next).run P w) := by
  unfold callC at e
  split at e
  · rename_i g first captured
    split at e
    · rename_i n hn
      obtain ⟨v, hv, e1⟩ := bnd_ok e
      clear e
      simp only [Except.ok.injEq] at e1; subst e1
      cases hf with
      | func _ h1 h2 =>
      rename_i a' c'
      obtain ⟨rfl, fd, q1, q2, q3, q4, q5⟩ := hE.ex hn
      have hnb : fd.body.isNone = true := by rw [q3]; rfl
      obtain ⟨v', hv', hrun⟩ := ext_run (P := P) (w := w) hv ((h1.app ha).app h2)
      have harr : args'.toArray ++ c' = (args' ++ c'.toList).toArray := by apply Array.ext'; simp
      have hres : (do let d ← Deferred.ofValue (.func (.func g) a' c') args'.toArray; invoke d.target d.args : Sem Next).run P w = .ok (.value v') w := by
        simp only [Deferred.ofValue, Sem.run_bind, Sem.run_pure, Result.andThen_ok, invoke, callFunc, run_program, q1, q2, hnb, Bool.false_eq_true, if_false, if_true, q4, q5]
        have harr : a' ++ args'.toArray ++ c' = (a'.toList ++ args' ++ c'.toList).toArray := by apply Array.ext'; simp
        rw [run_mark]
        simp only [Result.andThen_ok, Sem.run_bind, harr, hrun, Sem.run_pure]
      rw [hres]
      exact Did.same hr hv'
    obtain ⟨fn, hfn, e1⟩ := bnd_ok e
    clear e
    simp only [Except.ok.injEq] at e1; subst e1
    cases hf with
    | func _ h1 h2 =>
      rename_i a' c'
      obtain ⟨fd, c, q1, q2, q3, _⟩ := hE.fn (opt_ok hfn)
      have hnb : fd.body.isNone = false := by rw [q3]; rfl
      refine ⟨rfl, a'.toList ++ args' ++ c'.toList, ?_, (h1.app ha).app h2⟩
      simp only [Deferred.ofValue, Sem.run_bind, Sem.run_pure, Result.andThen_ok, invoke, callFunc, run_program, q1, q2, hnb, Bool.false_eq_true, if_false]
      congr 2
      apply Array.ext'
      simp
  · rename_i l first captured
    simp only [Except.ok.injEq] at e; subst e
    cases hf with
    | yield hl =>
      refine ⟨rfl, _, args', hl, ?_, ha⟩
      simp only [Deferred.ofValue, Sem.run_bind, Sem.run_pure, Result.andThen_ok, invoke]
      congr 3
      simp
  · cases e

theorem sim_call {tm : Tr Value} {ρ : Operand → Value} {o : Oper} {c : Call} (ho : o.op = .call c) (hρ : ∀ x ∈ o.op.operands, VR μ (evo tm x) (ρ x)) {rs : Rs} (e : c_call En id tm h c = .ok rs) : Sim P id base μ h w rs ((execOp ρ o).run P w) := by
  have hin : ∀ x ∈ c.args, x ∈ o.op.operands := by
    intro x hx; rw [ho]; simp [Op.operands, Call.operands, hx]
  have hargs : VRL μ (c.args.toList.map (evo tm)) (c.args.toList.map ρ) := VRL.map _ fun x hx => hρ x (hin x (by simpa using hx))
  have hmap : c.args.map ρ = (c.args.toList.map ρ).toArray := by apply Array.ext'; simp
  unfold c_call at e
  simp only [execOp, ho, resolve]
  rw [hmap]
  cases hc : c.callee with
  | builtin b =>
    simp only [hc] at e ⊢
    simp only [Sem.run_bind, Sem.run_pure, Result.andThen_ok, invoke]
    exact builtin_sim hE hr hb hargs e
  | value f =>
    simp only [hc] at e ⊢
    refine callC_sim hE hr hb (hρ f ?_) hargs e
    rw [ho]; simp [Op.operands, Call.operands, hc]
  | invoke r n => simp only [hc] at e; cases e
end
end Go.Ev
