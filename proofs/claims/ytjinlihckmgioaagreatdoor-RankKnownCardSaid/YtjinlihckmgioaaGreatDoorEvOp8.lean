/-
  By an AI agent: a part of the proof of this claim; what is proved stands in the text YtjinlihckmgioaaGreatDoorMain.
-/
import Derived.Test.YtjinlihckmgioaaGreatDoorEvOp7
set_option linter.unusedVariables false
set_option linter.unusedSimpArgs false
set_option linter.unusedSectionVars false
set_option linter.unusedVariables false
set_option linter.unusedSimpArgs false
set_option linter.unusedSectionVars false
namespace Go.Ev
open Go

/-- The heap after an append to a row that may or may not have had room. -/
noncomputable def spread (h : Hp) (f lim : Nat) (st : List (Nat × Nat)) (K : Blk) : Hp :=
  { obs := (cull h.obs h.cnt lim st).1.put h.cnt (.cells K), cnt := h.cnt + 1, fams := h.fams.put f ((h.cnt, K.size) :: (cull h.obs h.cnt lim st).2) }

section
variable {base : Nat} {μ : Mu} {h : Hp} {w : World} (hr : HW μ base h w) {f lim : Nat} {st : List (Nat × Nat)} (hst : h.fams.get f = some st) (hf : f < h.cnt) (hcnt : h.cnt < maxCnt) {K : Blk} (hK : K.fam = f + 1)
include hr hst hf hcnt hK

theorem spread_obs : ∀ x ob', (spread h f lim st K).obs.get x = some ob' → (x = h.cnt ∧ ob' = .cells K) ∨ (x ≠ h.cnt ∧ (cull h.obs h.cnt lim st).1.get x = some ob' ∧ h.obs.get x = some ob') := by
  have hp40 := pow40
  have hc40 : h.cnt + 1 < 2 ^ 40 := by omega
  obtain ⟨c1, c2, c3⟩ := cull_spec (b := h.cnt) (lim := lim) st h.obs (hr.fo f st hst).1 (hr.st40 hst)
  intro x ob' hx
  simp only [spread] at hx
  rw [Tr.get_put _ _ _ _ hc40] at hx
  split at hx
  · simp only [Option.some.injEq] at hx; exact .inl ⟨by assumption, hx.symm⟩
  · refine .inr ⟨by assumption, hx, ?_⟩
    rcases c1 x with h | h
    · rw [← h]; exact hx
    · rw [h.1] at hx; cases hx

theorem spread_small : ∀ x k', (spread h f lim st K).obs.get x = some (.cells k') → x ≠ h.cnt → k'.fam = f + 1 → k'.size ≤ lim ∧ (x, k'.size) ∈ (cull h.obs h.cnt lim st).2 := by
  obtain ⟨c1, c2, c3⟩ := cull_spec (b := h.cnt) (lim := lim) st h.obs (hr.fo f st hst).1 (hr.st40 hst)
  intro x k' hx hne hfam
  rcases spread_obs hr hst hf hcnt hK _ _ hx with ⟨e, _⟩ | ⟨_, hcx, hox⟩
  · exact absurd e hne
  · obtain ⟨_, st', q2, q3⟩ := hr.fam hox hfam
    rw [hst] at q2; cases q2
    have hle : k'.size ≤ lim := by
      rcases Nat.lt_or_ge lim k'.size with h | h
      · rw [c2 x _ q3 h hne] at hcx; cases hcx
      · exact h
    exact ⟨hle, c3 x _ q3 hle⟩

theorem spread_fam : ∀ {x k' f'}, (spread h f lim st K).obs.get x = some (.cells k') → k'.fam = f' + 1 → f' < (spread h f lim st K).cnt ∧ ∃ st', (spread h f lim st K).fams.get f' = some st' ∧ (x, k'.size) ∈ st' := by
  have hp40 := pow40
  have hf40 : f + 1 < 2 ^ 40 := by omega
  intro x k' f' hx hf'
  have hgf : ∀ f', (spread h f lim st K).fams.get f' = if f' = f then some ((h.cnt, K.size) :: (cull h.obs h.cnt lim st).2) else h.fams.get f' := fun f' => Tr.get_put _ _ _ _ hf40
  rcases spread_obs hr hst hf hcnt hK _ _ hx with ⟨rfl, he⟩ | ⟨hne, hcx, hox⟩
  · simp only [Ob.cells.injEq] at he
    subst he
    have : f' = f := by omega
    subst this
    exact ⟨by simp only [spread]; omega, _, by rw [hgf, if_pos rfl], by simp⟩
  · obtain ⟨q1, st', q2, q3⟩ := hr.fam hox hf'
    refine ⟨by simp only [spread]; omega, ?_⟩
    by_cases e : f' = f
    · subst e
      have := spread_small hr hst hf hcnt hK x k' hx hne hf'
      exact ⟨_, by rw [hgf, if_pos rfl], by simp [this.2]⟩
    · exact ⟨st', by rw [hgf, if_neg e]; exact q2, q3⟩

theorem spread_fo (hlimK : lim ≤ K.size) : FamOk (spread h f lim st K) := by
  have hp40 := pow40
  have hf40 : f + 1 < 2 ^ 40 := by omega
  intro f' st' hs
  have hgf : ∀ f', (spread h f lim st K).fams.get f' = if f' = f then some ((h.cnt, K.size) :: (cull h.obs h.cnt lim st).2) else h.fams.get f' := fun f' => Tr.get_put _ _ _ _ hf40
  rw [hgf] at hs
  simp only [spread]
  split at hs
  · simp only [Option.some.injEq] at hs
    subst hs
    obtain ⟨z1, z2⟩ := cull_srt (b := h.cnt) (o := lim) st h.obs (hr.fo f st hst).1
    refine ⟨List.pairwise_cons.2 ⟨fun p hp => ?_, z1⟩, fun c' s' hc' => ?_⟩
    · have := z2 p.1 p.2 hp; simp only; omega
    · rcases List.mem_cons.1 hc' with he | hc'
      · cases he; omega
      · have := (hr.fo f st hst).2 c' s' (cull_mem st h.obs c' s' hc'); omega
  · refine ⟨(hr.fo f' st' hs).1, fun c' s' hc' => ?_⟩
    have := (hr.fo f' st' hs).2 c' s' hc'; omega

theorem spread_dead : ∀ x, x < h.cnt → h.obs.get x = none → (spread h f lim st K).obs.get x = none := by
  have hp40 := pow40
  have hc40 : h.cnt + 1 < 2 ^ 40 := by omega
  obtain ⟨c1, c2, c3⟩ := cull_spec (b := h.cnt) (lim := lim) st h.obs (hr.fo f st hst).1 (hr.st40 hst)
  intro x hx hg
  simp only [spread]
  rw [Tr.get_put _ _ _ _ hc40, if_neg (by omega)]
  rcases c1 x with h | h
  · rw [h]; exact hg
  · exact h.1

theorem cnt_free : h.obs.get h.cnt = none ∧ μ.m h.cnt = none := by
  refine ⟨?_, ?_⟩
  · cases hg : h.obs.get h.cnt with
    | none => rfl
    | some ob => have := hr.old hg; omega
  · cases hg : μ.m h.cnt with
    | none => rfl
    | some B => have := (hr.oldm hg).1; omega

/-- There was room: the row is the old one. -/
theorem spread_in {b B : Nat} {k : Blk} (hbk : h.obs.get b = some (.cells k)) (hbB : μ.m b = some B) (hkf : k.fam = f + 1) {c : Array Value} {fr : Nat × Nat} (hcell : w.heap[B]? = some (.cells c k.elem fr)) (hR : CellsR μ k B c fr)
    {new new' : List Value} (hn : VRL μ new new') (hlim : lim ≤ k.size) (hfit : lim + new.length ≤ c.size) (hbig : lim + new.length ≤ bigSize)
    (hKd : K = { cells := k.cells.puts lim new, size := lim + new.length, elem := k.elem, fam := f + 1 }) (idn : Nat) :
    HW (μ.add h.cnt B (μ.S B) (f + 1)) base (spread h f lim st K) (w.putObj B (.cells (wrA c lim new') k.elem fr)) ∧
      Mv (· = idn) μ h w (μ.add h.cnt B (μ.S B) (f + 1)) (spread h f lim st K) (w.putObj B (.cells (wrA c lim new') k.elem fr)) := by
  have hgb : μ.g b = f + 1 := by have := hr.grp hbk hbB; simp only [famOf] at this; omega
  obtain ⟨hfree, hmfree⟩ := cnt_free hr hst hf hcnt hK
  have hobs := spread_obs (lim := lim) hr hst hf hcnt hK
  have hlv := hn.length
  have hb40 := big40
  obtain ⟨r1, r2, r3, r4, r5⟩ := hR
  have hcw : CellsR μ K B (wrA c lim new') fr := by
    subst hKd
    refine ⟨by rw [wrA_size]; exact r1, by rw [wrA_size]; exact hfit, hbig, by rw [wrA_size]; exact r4, fun i v hi hg => ?_⟩
    simp only at hi hg
    rw [Tr.get_puts _ _ _ _ (by omega)] at hg
    rw [wrA_get _ _ _ _ (by omega)]
    by_cases hh : lim ≤ i ∧ i < lim + new.length
    · rw [if_pos hh] at hg; rw [if_pos (by omega)]
      rcases hn.get (i - lim) with ⟨e1, _⟩ | ⟨x, y, e1, e2, hxy⟩
      · rw [e1] at hg; cases hg
      · rw [e1] at hg; cases hg; exact ⟨y, e2, hxy⟩
    · rw [if_neg hh] at hg; rw [if_neg (by omega)]
      exact r5 i v (by omega) hg
  obtain ⟨hle, hHR⟩ := HR.share hr.toHR hbB hgb hmfree (h' := spread h f lim st K) (w' := w.putObj B (.cells (wrA c lim new') k.elem fr)) (ob := .cells K) (o := .cells (wrA c lim new') k.elem fr) rfl
    (fun x ob' hx => (hobs x ob' hx).imp id fun q => ⟨q.1, q.2.2⟩)
    (fun x ob' hne hx hX => by
      rcases hobs x ob' hx with ⟨rfl, _⟩ | ⟨_, hcx, hox⟩
      · exact absurd rfl hne
      · obtain ⟨o', ho', hR'⟩ := hr.ob hox hX
        rw [hcell] at ho'; cases ho'
        cases ob' with
        | cells k' =>
          simp only [ObR] at hR' ⊢
          refine ⟨hR'.1, ?_⟩
          have hfx : k'.fam = f + 1 := by
            have h1 := hr.grp hox hX; simp only [famOf] at h1
            rcases hr.inj hX hbB with h | ⟨h, _⟩
            · subst h; omega
            · omega
          have := (spread_small hr hst hf hcnt hK x k' hx hne hfx).1
          exact cells_below hR'.2 (by omega) this
        | map es => simp only [ObR] at hR'
        | iter s p => simp only [ObR] at hR'
        | loop r => simp only [ObR] at hR')
    ⟨by rw [hKd], hcw⟩ (by rw [← hK]; rfl) (by simp only [spread]; omega) (by simp only [spread]; omega) (by simp only [spread]; omega) (spread_fam hr hst hf hcnt hK)
  refine ⟨⟨hHR, spread_fo hr hst hf hcnt hK (by rw [hKd]; exact Nat.le_add_right _ _)⟩, hle, by simp only [spread]; omega, fun x hx _ hg => spread_dead hr hst hf hcnt hK x hx hg, fun x X h1 h2 => ?_, by simp [World.putObj], fun X hX hno => ?_, rfl, rfl, rfl⟩
  · by_cases e : x = h.cnt
    · subst e
      simp only [Mu.add, if_true, Option.some.injEq] at h2
      subst h2
      exact ⟨.inr (Nat.le_refl _), .inr ⟨b, _, hbB, hbk⟩⟩
    · simp only [Mu.add, e, if_false] at h2
      rw [h1] at h2; cases h2
  · rw [putObj_heap, if_neg]
    intro hh
    obtain ⟨rfl, _⟩ := hh
    exact hno b _ hbB hbk

/-- There was no room: the row is a new one. -/
theorem spread_out {b B : Nat} {k : Blk} (hb : base ≤ w.heap.size) (hbk : h.obs.get b = some (.cells k)) (hbB : μ.m b = some B) (hkf : k.fam = f + 1) {c : Array Value} {fr : Nat × Nat} (hcell : w.heap[B]? = some (.cells c k.elem fr)) (hR : CellsR μ k B c fr)
    {new new' : List Value} (hn : VRL μ new new') (hlim : lim ≤ k.size) (hbig : lim + new.length ≤ bigSize)
    {c2 : Array Value} (hc2 : ∀ i, i < lim → c2[i]? = c[i]?) (hc3 : ∀ i, i < new'.length → c2[lim + i]? = new'[i]?) (hc4 : lim + new'.length ≤ c2.size)
    (hKd : K = { cells := k.cells.puts lim new, size := lim + new.length, elem := k.elem, fam := f + 1 }) {w' : World} (hw : w'.heap = w.heap.push (.cells c2 k.elem)) (hos : w'.os = w.os) (hou : w'.output = w.output) (hta : w'.tape = w.tape) (idn : Nat) :
    HW (μ.add h.cnt w.heap.size c2.size (f + 1)) base (spread h f lim st K) w' ∧
      Mv (· = idn) μ h w (μ.add h.cnt w.heap.size c2.size (f + 1)) (spread h f lim st K) w' := by
  obtain ⟨hfree, hmfree⟩ := cnt_free hr hst hf hcnt hK
  have hobs := spread_obs (lim := lim) hr hst hf hcnt hK
  have hlv := hn.length
  have hb40 := big40
  obtain ⟨r1, r2, r3, r4, r5⟩ := hR
  have hle : μ.le (μ.add h.cnt w.heap.size c2.size (f + 1)) := Mu.le_add hmfree hr.fresh
  have hcw : CellsR (μ.add h.cnt w.heap.size c2.size (f + 1)) K w.heap.size c2 (0, 0) := by
    subst hKd
    refine ⟨by simp [Mu.add], by simp only; omega, hbig, .inl rfl, fun i v hi hg => ?_⟩
    simp only at hi hg
    rw [Tr.get_puts _ _ _ _ (by omega)] at hg
    by_cases hh : lim ≤ i ∧ i < lim + new.length
    · rw [if_pos hh] at hg
      have := hc3 (i - lim) (by omega)
      rw [show lim + (i - lim) = i by omega] at this
      rw [this]
      rcases hn.get (i - lim) with ⟨e1, _⟩ | ⟨x, y, e1, e2, hxy⟩
      · rw [e1] at hg; cases hg
      · rw [e1] at hg; cases hg; exact ⟨y, e2, hxy.mono hle⟩
    · rw [if_neg hh] at hg
      rw [hc2 i (by omega)]
      obtain ⟨v', q1, q2⟩ := r5 i v (by omega) hg
      exact ⟨v', q1, q2.mono hle⟩
  refine ⟨⟨HR.alloc hr.toHR hmfree hb hw (fun x ob' hx => (hobs x ob' hx).imp id fun q => ⟨q.1, q.2.2⟩) (by simp only [spread]; omega) (by simp only [spread]; omega) (by simp only [spread]; omega) (ob := .cells K) ⟨by rw [hKd], hcw⟩ (by rw [← hK]; rfl) (spread_fam hr hst hf hcnt hK), spread_fo hr hst hf hcnt hK (by rw [hKd]; exact Nat.le_add_right _ _)⟩,
    hle, by simp only [spread]; omega, fun x hx _ hg => spread_dead hr hst hf hcnt hK x hx hg, fun x X h1 h2 => ?_, by rw [hw]; simp, fun X hX hno => ?_, hos, hou, hta⟩
  · by_cases e : x = h.cnt
    · subst e
      simp only [Mu.add, if_true, Option.some.injEq] at h2
      subst h2
      exact ⟨.inr (Nat.le_refl _), .inl (Nat.le_refl _)⟩
    · simp only [Mu.add, e, if_false] at h2
      rw [h1] at h2; cases h2
  · rw [hw, Array.getElem?_push, if_neg (by omega)]
end
end Go.Ev
