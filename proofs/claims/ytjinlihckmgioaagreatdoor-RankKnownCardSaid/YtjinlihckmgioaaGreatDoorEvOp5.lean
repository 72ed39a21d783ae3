/-
  By an AI agent: a part of the proof of this claim; what is proved stands in the text YtjinlihckmgioaaGreatDoorMain.
-/
import Derived.Test.YtjinlihckmgioaaGreatDoorEvOp4
set_option linter.unusedVariables false
set_option linter.unusedSimpArgs false
set_option linter.unusedSectionVars false
set_option linter.unusedVariables false
set_option linter.unusedSimpArgs false
set_option linter.unusedSectionVars false
namespace Go.Ev
open Go

/-- A new row that has grown. -/
theorem grown_rel {id base : Nat} {μ : Mu} {h : Hp} {w : World} (hr : HW μ base h w) (hb : base ≤ w.heap.size) {vs vs' : List Value} (hv : VRL μ vs vs') {t : TypeId} {es n : Nat} {rs : Rs} (e : grown h vs t (es + 1) n = .ok rs)
    {c : Array Value} {fr : Nat × Nat} {w' : World} (hw : w'.heap = w.heap.push (.cells c t fr)) (hos : w'.os = w.os) (hou : w'.output = w.output) (hta : w'.tape = w.tape)
    (hc : ∀ i, i < vs'.length → c[i]? = vs'[i]?) (hcl : vs'.length ≤ c.size) (hfr : fr = (0, 0) ∨ c.size ≤ fr.1) {cap' : Nat} (hn : n ≤ cap') (hcap : cap' * (es + 1) ≤ c.size) :
    ∃ v h', rs = .val v h' ∧ Did id base μ h w v h' (.ok (.value (.slice (some ⟨w.heap.size, 0, none⟩) n cap')) w') := by
  unfold grown at e
  obtain ⟨hokc, e⟩ := chk_ok e
  obtain ⟨hlen, e⟩ := chk_ok e
  obtain ⟨hcnt, e⟩ := chk_ok e
  have hlen := blt_true hlen
  have hcnt := blt_true hcnt
  simp only [Except.ok.injEq] at e
  subst e
  refine ⟨_, _, rfl, ?_⟩
  have hp40 := pow40
  have hbig := big40
  have hc40 : h.cnt + 1 < 2 ^ 40 := by omega
  have hfree : h.obs.get h.cnt = none := by
    cases hg : h.obs.get h.cnt with
    | none => rfl
    | some ob => have := hr.old hg; omega
  have hmfree : μ.m h.cnt = none := by
    cases hg : μ.m h.cnt with
    | none => rfl
    | some B => have := (hr.oldm hg).1; omega
  have hle : μ.le (μ.add h.cnt w.heap.size c.size (h.cnt + 1)) := Mu.le_add hmfree hr.fresh
  have hobs : ∀ x ob', (h.obs.put h.cnt (Ob.cells { cells := Tr.ofList vs, size := vs.length, elem := t, fam := h.cnt + 1 })).get x = some ob' →
      (x = h.cnt ∧ ob' = Ob.cells { cells := Tr.ofList vs, size := vs.length, elem := t, fam := h.cnt + 1 }) ∨ (x ≠ h.cnt ∧ h.obs.get x = some ob') := by
    intro x ob' hx
    rw [Tr.get_put _ _ _ _ hc40] at hx
    split at hx
    · simp only [Option.some.injEq] at hx; exact .inl ⟨by assumption, hx.symm⟩
    · exact .inr ⟨by assumption, hx⟩
  have hl := hv.length
  refine ⟨μ.add h.cnt w.heap.size c.size (h.cnt + 1), w', _, rfl, .inl ⟨_, rfl, .slg 0 es n (by simp [Mu.add]) hn (by simp [Mu.add]; omega)⟩, ⟨?_, ?_⟩, ?_⟩
  · refine HR.alloc hr.toHR hmfree hb hw hobs (by simp only; omega) (by simp only; omega) (by simp only; omega) ⟨rfl, by simp [Mu.add], by simp only; omega, by simp only; omega, hfr, ?_⟩ rfl ?_
    · intro i v hi hgv
      simp only at hi hgv
      rw [Tr.get_ofList _ _ (by omega)] at hgv
      rcases hv.get i with ⟨e1, _⟩ | ⟨x, y, e1, e2, hxy⟩
      · rw [e1] at hgv; cases hgv
      · rw [e1] at hgv; cases hgv
        exact ⟨y, by rw [hc i (by omega)]; exact e2, hxy.mono hle⟩
    · intro b k f hbk hf
      rcases hobs _ _ hbk with ⟨rfl, he⟩ | ⟨hne, ho⟩
      · simp only [Ob.cells.injEq] at he
        subst he
        simp only [Nat.add_right_cancel_iff] at hf
        subst hf
        exact ⟨by simp only; omega, _, by simp only; rw [Tr.get_put _ _ _ _ hc40, if_pos rfl], by simp⟩
      · obtain ⟨q1, st, q2, q3⟩ := hr.fam ho hf
        refine ⟨by simp only; omega, st, ?_, q3⟩
        simp only
        rw [Tr.get_put _ _ _ _ hc40, if_neg (by omega)]
        exact q2
  · intro f st hs
    simp only at hs
    rw [Tr.get_put _ _ _ _ hc40] at hs
    split at hs
    · simp only [Option.some.injEq] at hs
      subst hs
      refine ⟨by simp [Srt], fun c' s' hm => ?_⟩
      simp only [List.mem_singleton, Prod.mk.injEq] at hm
      obtain ⟨rfl, _⟩ := hm
      simp only; omega
    · refine ⟨(hr.fo f st hs).1, fun c' s' hm => ?_⟩
      have := (hr.fo f st hs).2 c' s' hm
      simp only; omega
  · refine ⟨hle, by simp only; omega, fun x hx _ hgx => ?_, fun x B h1 h2 => ?_, by rw [hw]; simp, fun B hB _ => ?_, hos, hou, hta⟩
    · simp only
      rw [Tr.get_put _ _ _ _ hc40, if_neg (by omega)]
      exact hgx
    · by_cases ex : x = h.cnt
      · rw [ex] at h2; simp only [Mu.add, if_true] at h2; cases h2
        exact ⟨.inr (by omega), .inl (Nat.le_refl _)⟩
      · simp [Mu.add, ex, h1] at h2
    · rw [hw, Array.getElem?_push, if_neg (by omega)]

section
variable {P : Program} {En : Env} (hE : EnvOk P En) {id base : Nat} {μ : Mu} {h : Hp} {w : World} (hr : HW μ base h w)
  (hb : base ≤ w.heap.size) (hid : id < h.cnt) (hm : μ.m id = none) {tm : Tr Value} {ρ : Operand → Value}
include hE hr hb hid hm

theorem places_run : ∀ (l : List Field) (pl : List (Nat × Nat)), placesC En l = .ok pl → (l.mapM (fun f => (do pure (f.offset, ← sizeOf f.type) : Sem (Nat × Nat)))).run P w = .ok pl w
  | [], pl, e => by simp only [placesC, Except.ok.injEq] at e; subst e; simp
  | f :: l, pl, e => by
    simp only [placesC] at e
    obtain ⟨d, hd, e⟩ := bnd_ok e
    obtain ⟨r, hr', e⟩ := bnd_ok e
    simp only [Except.ok.injEq] at e; subst e
    have := places_run l r hr'
    simp only [List.mapM_cons, Sem.run_bind, (hE.ty (opt_ok hd)).runSize, Result.andThen_ok, Sem.run_pure, this]

theorem sim_build {o : Oper} {t : TypeId} {parts : Array (Nat × Operand)} (ho : o.op = .build t parts) (hx : ∀ p ∈ parts.toList, VR μ (evo tm p.2) (ρ p.2)) {rs : Rs} (e : c_build En id tm h t parts = .ok rs) :
    Sim P id base μ h w rs ((execOp ρ o).run P w) := by
  unfold c_build at e
  obtain ⟨d, hd, e⟩ := bnd_ok e
  have hT := hE.ty (opt_ok hd)
  have hz : VRL μ d.zero d.zv.cells.toList := by rw [hT.cells]; exact plains_rel μ hT.plain
  have hps : VRL μ ((parts.toList.map fun p => (p.1, evo tm p.2)).map (·.2)) ((parts.toList.map fun p => (p.1, ρ p.2)).map (·.2)) := by
    simp only [List.map_map]; exact VRL.map _ fun p hp => hx p hp
  have hfs : (parts.toList.map fun p => (p.1, evo tm p.2)).map (·.1) = (parts.toList.map fun p => (p.1, ρ p.2)).map (·.1) := by simp
  have hpa : (parts.map fun (p : Nat × Operand) => (p.1, ρ p.2)).toList = parts.toList.map fun p => (p.1, ρ p.2) := by simp
  simp only at e
  split at e
  · rename_i fs hdd
    obtain ⟨pl, hpl, e⟩ := bnd_ok e
    obtain ⟨cs, hcs, e⟩ := bnd_ok e
    simp only [Except.ok.injEq] at e; subst e
    obtain ⟨r', hr', hrel⟩ := fill_rel _ _ _ _ _ hz hfs hps hcs
    have hpr := places_run hE hr hb hid hm fs.toList pl hpl
    have h2 : (fs.mapM (fun f => (do pure (f.offset, ← sizeOf f.type) : Sem (Nat × Nat)))).run P w = .ok pl.toArray w := by
      rw [Array.mapM_eq_mapM_toList, Sem.run_map, hpr]; rfl
    have : (execOp ρ o).run P w = .ok (.value (.agg r')) w := by
      simp only [execOp, ho, Instr.build, Sem.run_bind, hT.runZero, Result.andThen_ok, hT.runUnder, hdd, h2]
      have h3 : (fun i : Nat => (pl.toArray)[i]?) = fun i => pl[i]? := by funext i; simp
      rw [hpa, h3, hr']
      rfl
    rw [this]
    refine Did.same hr (.agg ?_)
    simpa using hrel
  · rename_i n et hdd
    obtain ⟨de, hde, e⟩ := bnd_ok e
    have hTe := hE.ty (opt_ok hde)
    obtain ⟨cs, hcs, e⟩ := bnd_ok e
    simp only [Except.ok.injEq] at e; subst e
    obtain ⟨r', hr', hrel⟩ := fill_rel _ _ _ _ _ hz hfs hps hcs
    have : (execOp ρ o).run P w = .ok (.value (.agg r')) w := by
      simp only [execOp, ho, Instr.build, Sem.run_bind, hT.runZero, Result.andThen_ok, hT.runUnder, hdd, hTe.runSize]
      rw [hpa, hr']
      rfl
    rw [this]
    refine Did.same hr (.agg ?_)
    simpa using hrel
  · cases e

theorem sim_buildSlice {o : Oper} {t : TypeId} {len : Nat} {parts : Array (Nat × Operand)} (ho : o.op = .buildSlice t len parts) (hx : ∀ p ∈ parts.toList, VR μ (evo tm p.2) (ρ p.2)) {rs : Rs} (e : c_buildSlice En id tm h t len parts = .ok rs) :
    Sim P id base μ h w rs ((execOp ρ o).run P w) := by
  unfold c_buildSlice at e
  obtain ⟨d, hd, e⟩ := bnd_ok e
  have hT := hE.ty (opt_ok hd)
  have hps : VRL μ ((parts.toList.map fun p => (p.1, evo tm p.2)).map (·.2)) ((parts.toList.map fun p => (p.1, ρ p.2)).map (·.2)) := by
    simp only [List.map_map]; exact VRL.map _ fun p hp => hx p hp
  have hfs : (parts.toList.map fun p => (p.1, evo tm p.2)).map (·.1) = (parts.toList.map fun p => (p.1, ρ p.2)).map (·.1) := by simp
  have hpa : (parts.map fun (p : Nat × Operand) => (p.1, ρ p.2)).toList = parts.toList.map fun p => (p.1, ρ p.2) := by simp
  split at e
  · rename_i et hdd
    obtain ⟨de, hde, e⟩ := bnd_ok e
    have hTe := hE.ty (opt_ok hde)
    obtain ⟨cs, hcs, e⟩ := bnd_ok e
    obtain ⟨ob, hob, e⟩ := bnd_ok e
    obtain ⟨hsm, e⟩ := chk_ok e
    have hsm := Nat.le_of_ble_eq_true hsm
    simp only [Except.ok.injEq] at e; subst e
    have hz : (Array.range (len * de.size)).map (fun i : Nat => de.zv.cells[i % de.zv.cells.size]!) = (repl de.zero len).toArray := by
      have := range_repl (z := de.zv.cells) (n := len) (m := len * de.size) (by have := hTe.len; rw [← hTe.cells] at this; simp at this; rw [this])
      rw [hTe.cells] at this
      rw [← this]
    obtain ⟨r', hr', hrel⟩ := fill_rel _ _ _ (repl de.zero len).toArray _ (by simpa using repl_rel μ hTe.plain len) hfs hps hcs
    obtain ⟨g1, g2⟩ := new_cells (P := P) hr hb hid hm hrel hob
    have : (execOp ρ o).run P w = .ok (.value (.slice (some ⟨w.heap.size, 0, none⟩) len len)) (w.alloc (.cells r'.toList.toArray et)) := by
      have h0 : ¬ len * de.size > 2 ^ 24 := by omega
      simp only [execOp, ho, Instr.buildSlice, Sem.run_bind, hT.runUnder, hdd, Result.andThen_ok, hTe.runSize, h0, if_false]
      by_cases hn : len * de.size = 0
      · have hnil : (repl de.zero len).toArray = #[] := by
          have := repl_length de.zero len
          rw [hTe.len, hn] at this
          rw [List.length_eq_zero_iff.1 this]
        rw [hnil] at hr'
        have ha : (Array.map (fun i : Nat => (#[] : Array Value)[i % (#[] : Array Value).size]!) (Array.range 0)) = #[] := by simp [Array.range]
        simp only [hn, if_true, Sem.run_bind, Sem.run_pure, Result.andThen_ok]
        rw [hpa, ha, hr']
        simp only [Sem.run_bind, newRow, run_newObj, Result.andThen_ok, Sem.run_pure]
        rfl
      · simp only [hn, if_false, Sem.run_bind, hTe.runZero, Sem.run_pure, Result.andThen_ok]
        rw [hpa, hz, hr']
        simp only [Sem.run_bind, newRow, run_newObj, Result.andThen_ok, Sem.run_pure]
        rfl
    rw [this]
    exact ⟨_, _, _, rfl, .inl ⟨_, rfl, .sl 0 len len (by simp [Mu.add])⟩, g1, g2⟩
  · cases e

theorem sim_range {o : Oper} {t : TypeId} {x : Operand} (ho : o.op = .range t x) (hx : VR μ (evo tm x) (ρ x)) {rs : Rs} (e : c_range En id tm h t x = .ok rs) : Sim P id base μ h w rs ((execOp ρ o).run P w) := by
  unfold c_range at e
  obtain ⟨d, hd, e⟩ := bnd_ok e
  have hT := hE.ty (opt_ok hd)
  generalize evo tm x = vx at hx e
  generalize hra : ρ x = rx at hx
  split at e
  · rename_i s hdd
    simp only [Except.ok.injEq] at e; subst e
    cases hx
    have : (execOp ρ o).run P w = .ok (.value (.pointer (some ⟨w.heap.size, 0, none⟩))) (w.alloc (.stringIter s 0)) := by
      simp [execOp, ho, hra, Instr.range, hT.runUnder, hdd]
    rw [this]
    have hid40 := hr.num40 hid
    have hobs : ∀ x ob', (newAt h id (.iter s 0)).obs.get x = some ob' → (x = id ∧ ob' = .iter s 0) ∨ (x ≠ id ∧ h.obs.get x = some ob') := by
      intro x ob' hx
      simp only [newAt] at hx
      rw [Tr.get_put _ _ _ _ hid40] at hx
      split at hx
      · simp only [Option.some.injEq] at hx; exact .inl ⟨by assumption, hx.symm⟩
      · exact .inr ⟨by assumption, hx⟩
    refine ⟨μ.add id w.heap.size 0 0, _, _, rfl, .inl ⟨_, rfl, .ptr 0 (by simp [Mu.add])⟩, ⟨HR.alloc hr.toHR hm hb rfl hobs (Nat.le_refl _) hid hr.cnt (o := .stringIter s 0) ⟨rfl, rfl⟩ rfl ?_, hr.fo⟩, ?_⟩
    · intro b k f hbk hf
      rcases hobs _ _ hbk with ⟨_, he⟩ | ⟨_, ho⟩
      · cases he
      · exact hr.fam ho hf
    · refine ⟨Mu.le_add hm hr.fresh, Nat.le_refl _, fun x _ hx hgx => by simp only [newAt]; rw [Tr.get_put _ _ _ _ hid40, if_neg hx]; exact hgx, fun x B h1 h2 => ?_, by simp, fun B hB _ => heap_alloc_old w _ B hB, rfl, rfl, rfl⟩
      by_cases ex : x = id
      · rw [ex] at h2; simp only [Mu.add, if_true] at h2; cases h2
        exact ⟨.inl ex, .inl (Nat.le_refl _)⟩
      · simp [Mu.add, ex, h1] at h2
  · cases e

/-- An object of its own is turned. -/
theorem turn_ob {b B : Nat} {ob0 ob : Ob} {o : Obj} (hmb : μ.m b = some B) (hgb : h.obs.get b = some ob0) (hf0 : famOf ob0 = 0) (hf : famOf ob = 0) (hR : ObR μ B ob o) :
    HW μ base { h with obs := h.obs.put b ob } (w.putObj B o) ∧ Mv (· = id) μ h w μ { h with obs := h.obs.put b ob } (w.putObj B o) := by
  have hb40 := hr.num40 (hr.old hgb)
  have hg0 : μ.g b = 0 := by rw [← hr.grp hgb hmb]; exact hf0
  have hobs : ∀ x ob', (h.obs.put b ob).get x = some ob' → (x = b ∧ ob' = ob) ∨ (x ≠ b ∧ h.obs.get x = some ob') := by
    intro x ob' hx
    rw [Tr.get_put _ _ _ _ hb40] at hx
    split at hx
    · simp only [Option.some.injEq] at hx; exact .inl ⟨by assumption, hx.symm⟩
    · exact .inr ⟨by assumption, hx⟩
  refine ⟨⟨HR.upd hr.toHR hmb hgb (ob := ob) (o := o) rfl hobs ?_ hR (by rw [hf, hf0]) rfl ?_, hr.fo⟩, ?_⟩
  · intro x ob' hne hx hX
    rcases hr.inj hX hmb with h | ⟨h1, h2⟩
    · exact absurd h hne
    · rw [hg0] at h1; exact absurd h1 h2
  · intro x k f hx hfk
    rcases hobs _ _ hx with ⟨_, he⟩ | ⟨_, ho⟩
    · subst he; simp only [famOf] at hf; omega
    · exact hr.fam ho hfk
  · refine ⟨.refl μ, Nat.le_refl _, fun x _ _ hgx => ?_, fun x B h1 h2 => (by rw [h1] at h2; cases h2), (by simp [World.putObj]), fun X hX hn => ?_, rfl, rfl, rfl⟩
    · simp only
      rw [Tr.get_put _ _ _ _ hb40]
      split
      · rename_i e; rw [e, hgb] at hgx; cases hgx
      · exact hgx
    · rw [putObj_heap, if_neg]
      rintro ⟨rfl, _⟩
      exact hn b ob0 hmb hgb

theorem sim_next {o : Oper} {it : Operand} (ho : o.op = .next it true) (hx : VR μ (evo tm it) (ρ it)) {rs : Rs} (e : c_next En id tm h it = .ok rs) : Sim P id base μ h w rs ((execOp ρ o).run P w) := by
  unfold c_next at e
  generalize evo tm it = vx at hx e
  generalize hra : ρ it = rx at hx
  split at e
  · rename_i r
    obtain ⟨b, B, off, hbe, hbB, rfl⟩ := hx.ptr_inv
    simp only [Addr.mk.injEq] at hbe
    obtain ⟨rfl, rfl, _⟩ := hbe
    split at e
    · rename_i s pos hget
      obtain ⟨ob, hob, hR⟩ := hr.ob hget hbB
      cases ob <;> simp only [ObR] at hR
      obtain ⟨rfl, rfl⟩ := hR
      have hgo : (getObj B).run P w = .ok (.stringIter s pos) w := by simp [getObj, Sem.run, hob]
      split at e
      · rename_i hlt
        have hlt := blt_true hlt
        simp only [Except.ok.injEq] at e; subst e
        have : (execOp ρ o).run P w = .ok (.value (.tuple #[.bool true, goInt pos, .int .i32 (Utf8.decode s pos).1])) (w.putObj B (.stringIter s (pos + (Utf8.decode s pos).2))) := by
          simp only [execOp, ho, hra, Instr.next, Sem.run_bind, hgo, Result.andThen_ok, hlt, if_true]
          simp [setObj, Sem.run, hob, World.putObj]
        rw [this]
        obtain ⟨g1, g2⟩ := turn_ob hE hr hb hid hm hbB hget rfl (ob := .iter s (pos + (Utf8.decode s pos).2)) (o := .stringIter s (pos + (Utf8.decode s pos).2)) rfl ⟨rfl, rfl⟩
        exact ⟨μ, _, _, rfl, .inl ⟨_, rfl, .tuple (.cons (.bool _) (.cons (.int _ _) (.cons (.int _ _) .nil)))⟩, g1, g2⟩
      · rename_i hlt
        have hlt := blt_false hlt
        simp only [Except.ok.injEq] at e; subst e
        have : (execOp ρ o).run P w = .ok (.value (.tuple #[.bool false])) w := by
          have h0 : ¬ pos < s.size := by omega
          simp only [execOp, ho, hra, Instr.next, Sem.run_bind, hgo, Result.andThen_ok, h0, if_false, Sem.run_pure]
        rw [this]
        exact Did.same hr (.tuple (.cons (.bool _) .nil))
    · cases e
  · cases e
end
end Go.Ev
