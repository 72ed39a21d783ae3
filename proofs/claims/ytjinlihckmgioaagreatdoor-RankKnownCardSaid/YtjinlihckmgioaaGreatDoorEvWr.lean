/-
  By an AI agent: a part of the proof of this claim; what is proved stands in the text YtjinlihckmgioaaGreatDoorMain.
-/
import Derived.Test.YtjinlihckmgioaaGreatDoorEvHeap
set_option linter.unusedVariables false
set_option linter.unusedSimpArgs false
set_option linter.unusedSectionVars false
set_option linter.unusedVariables false
namespace Go.Ev
open Go

theorem getBlk_ok {h : Hp} {b : Nat} {k : Blk} (e : getBlk h b = .ok k) : h.obs.get b = some (.cells k) := by
  unfold getBlk at e
  split at e
  · rename_i hk; simp only [Except.ok.injEq] at e; rw [hk, e]
  · cases e

theorem pow40 : maxCnt < 2 ^ 40 := by decide
theorem big40 : bigSize < 2 ^ 39 := by decide

/-- The longest come first. -/
def Srt (st : List (Nat × Nat)) : Prop := st.Pairwise fun a b => b.2 ≤ a.2

theorem cull_mem {b o : Nat} : ∀ (st : List (Nat × Nat)) (obs : Tr Ob) (x s : Nat), (x, s) ∈ (cull obs b o st).2 → (x, s) ∈ st
  | [], obs, x, s, h => by simp [cull] at h
  | (a1, a2) :: r, obs, x, s, h => by
    simp only [cull] at h
    cases h1 : Nat.ble a2 o with
    | true => rw [h1] at h; exact h
    | false =>
      rw [h1] at h
      cases h2 : Nat.beq a1 b with
      | true => rw [h2] at h; simp [cull_mem r _ _ _ h]
      | false => rw [h2] at h; simp [cull_mem r _ _ _ h]

theorem cull_srt {b o : Nat} : ∀ (st : List (Nat × Nat)) (obs : Tr Ob), Srt st → Srt (cull obs b o st).2 ∧ ∀ x s, (x, s) ∈ (cull obs b o st).2 → s ≤ o
  | [], obs, h => by simp [cull, Srt]
  | (a1, a2) :: r, obs, h => by
    simp only [cull]
    have hp := List.pairwise_cons.1 h
    cases h1 : Nat.ble a2 o with
    | true =>
      have h1 := Nat.le_of_ble_eq_true h1
      refine ⟨h, fun x s hx => ?_⟩
      rcases List.mem_cons.1 hx with e | hx
      · cases e; exact h1
      · have := hp.1 _ hx; simp only at this; omega
    | false =>
      cases h2 : Nat.beq a1 b with
      | true => exact cull_srt r _ hp.2
      | false => exact cull_srt r _ hp.2

/-- What is left of a family. -/
theorem cull_spec {b lim : Nat} : ∀ (st : List (Nat × Nat)) (obs : Tr Ob), Srt st → (∀ c s, (c, s) ∈ st → c + 1 < 2 ^ 40) →
    (∀ x, (cull obs b lim st).1.get x = obs.get x ∨ ((cull obs b lim st).1.get x = none ∧ x ≠ b)) ∧
    (∀ x s, (x, s) ∈ st → lim < s → x ≠ b → (cull obs b lim st).1.get x = none) ∧
    (∀ x s, (x, s) ∈ st → s ≤ lim → (x, s) ∈ (cull obs b lim st).2)
  | [], obs, _, _ => ⟨fun x => .inl rfl, fun _ _ h => (by cases h), fun _ _ h => (by cases h)⟩
  | (c, s) :: r, obs, hsr, hst => by
    have hsp := List.pairwise_cons.1 hsr
    have hr : ∀ c s, (c, s) ∈ r → c + 1 < 2 ^ 40 := fun c s h => hst c s (by simp [h])
    have hc := hst c s (by simp)
    simp only [cull]
    cases h1 : Nat.ble s lim with
    | true =>
      have hle : s ≤ lim := Nat.le_of_ble_eq_true h1
      refine ⟨fun x => .inl rfl, fun x s' hx hs hne => ?_, fun x s' hx hs => hx⟩
      rcases List.mem_cons.1 hx with e | hx
      · cases e; omega
      · have := hsp.1 _ hx; simp only at this; omega
    | false =>
      have hgt : lim < s := by
        rcases Nat.lt_or_ge lim s with h | h
        · exact h
        · rw [Nat.ble_eq_true_of_le h] at h1; cases h1
      cases h2 : Nat.beq c b with
      | true =>
        have hcb : c = b := Nat.eq_of_beq_eq_true h2
        obtain ⟨i1, i2, i3⟩ := cull_spec (b := b) (lim := lim) r obs hsp.2 hr
        refine ⟨i1, fun x s' hx hs hne => ?_, fun x s' hx hs => ?_⟩
        · rcases List.mem_cons.1 hx with e | hx
          · cases e; exact absurd hcb hne
          · exact i2 x s' hx hs hne
        · rcases List.mem_cons.1 hx with e | hx
          · cases e; omega
          · exact i3 x s' hx hs
      | false =>
        have hcb : c ≠ b := fun e => by rw [e] at h2; simp at h2
        obtain ⟨i1, i2, i3⟩ := cull_spec (b := b) (lim := lim) r (Tr.set dep obs c none) hsp.2 hr
        refine ⟨fun x => ?_, fun x s' hx hs hne => ?_, fun x s' hx hs => ?_⟩
        · rcases i1 x with h | h
          · rw [h]
            by_cases e : x = c
            · right; rw [e]; exact ⟨by rw [Tr.get_del _ _ _ hc]; simp, hcb⟩
            · left; rw [Tr.get_del _ _ _ hc, if_neg e]
          · exact .inr h
        · rcases List.mem_cons.1 hx with e | hx
          · cases e
            rcases i1 c with h | h
            · rw [h, Tr.get_del _ _ _ hc]; simp
            · exact h.1
          · exact i2 x s' hx hs hne
        · rcases List.mem_cons.1 hx with e | hx
          · cases e; omega
          · exact i3 x s' hx hs

/-- All members that a family names have numbers below the count. -/
def FamOk (h : Hp) : Prop := ∀ f st, h.fams.get f = some st → Srt st ∧ ∀ c s, (c, s) ∈ st → c < h.cnt

theorem cells_puts {k : Blk} {B o : Nat} {μ : Mu} {c : Array Value} {fr : Nat × Nat} {vs vs' : List Value} (hk : CellsR μ k B c fr) (hv : VRL μ vs vs') (hl : o + vs.length ≤ k.size) :
    CellsR μ { k with cells := k.cells.puts o vs } B (wrA c o vs') fr := by
  obtain ⟨h1, h2, h3, h4, h5⟩ := hk
  have hb := big40
  refine ⟨by rw [wrA_size]; exact h1, by rw [wrA_size]; exact h2, h3, by rw [wrA_size]; exact h4, fun i v hi hg => ?_⟩
  rw [Tr.get_puts _ _ _ _ (by omega)] at hg
  have hlen := hv.length
  rw [wrA_get _ _ _ _ (by omega)]
  by_cases h : o ≤ i ∧ i < o + vs.length
  · rw [if_pos h] at hg; rw [if_pos (by omega)]
    rcases hv.get (i - o) with ⟨e1, _⟩ | ⟨x, y, e1, e2, hr⟩
    · rw [e1] at hg; cases hg
    · rw [e1] at hg; cases hg; exact ⟨y, e2, hr⟩
  · rw [if_neg h] at hg; rw [if_neg (by omega)]
    exact h5 i v hi hg

/-- A block whose cells lie below what is written. -/
theorem cells_below {k : Blk} {B o : Nat} {μ : Mu} {c : Array Value} {fr : Nat × Nat} {vs' : List Value} (hk : CellsR μ k B c fr) (hl : o + vs'.length ≤ c.size) (hs : k.size ≤ o) :
    CellsR μ k B (wrA c o vs') fr := by
  obtain ⟨h1, h2, h3, h4, h5⟩ := hk
  refine ⟨by rw [wrA_size]; exact h1, by rw [wrA_size]; exact h2, h3, by rw [wrA_size]; exact h4, fun i v hi hg => ?_⟩
  rw [wrA_get _ _ _ _ hl, if_neg (by omega)]
  exact h5 i v hi hg

structure HW (μ : Mu) (base : Nat) (h : Hp) (w : World) : Prop extends HR μ base h w where
  fo : FamOk h

theorem HW.st40 {μ : Mu} {base : Nat} {h : Hp} {w : World} (hr : HW μ base h w) {f : Nat} {st : List (Nat × Nat)} (hs : h.fams.get f = some st) : ∀ c s, (c, s) ∈ st → c + 1 < 2 ^ 40 := by
  intro c s hm
  have := (hr.fo f st hs).2 c s hm
  have := hr.cnt
  have := pow40
  omega

theorem HW.num40 {μ : Mu} {base : Nat} {h : Hp} {w : World} (hr : HW μ base h w) {b : Nat} (hb : b < h.cnt) : b + 1 < 2 ^ 40 := by
  have := hr.cnt
  have := pow40
  omega

/-- A row of cells is written. -/
theorem wr_rel {μ : Mu} {base : Nat} {h h' : Hp} {w : World} {P : Program} {b B o : Nat} {vs vs' : List Value} (hr : HW μ base h w) (hm : μ.m b = some B) (hv : VRL μ vs vs') (e : wr h b o vs = .ok h') :
    ∃ w', (storeCells ⟨B, o, none⟩ vs').run P w = .ok () w' ∧ HW μ base h' w' ∧ h'.cnt = h.cnt ∧ (∀ x, h.obs.get x = none → h'.obs.get x = none) ∧
      (∃ ob, w'.heap = w.heap.setIfInBounds B ob) ∧ w'.os = w.os ∧ w'.output = w.output ∧ w'.tape = w.tape := by
  unfold wr at e
  obtain ⟨k, hk, e⟩ := bnd_ok e
  have hg := getBlk_ok hk
  obtain ⟨hlen, e⟩ := chk_ok e
  obtain ⟨hokc, e⟩ := chk_ok e
  have hlen : o + vs.length ≤ k.size := Nat.le_of_ble_eq_true hlen
  obtain ⟨ob, hob, hR⟩ := hr.ob hg hm
  cases ob with
  | cells c el fr =>
    simp only [ObR] at hR
    obtain ⟨rfl, hc⟩ := hR
    have hlv := hv.length
    have hrun := run_storeCells P (o := o) vs' 0 c w hob (not_frozen hc.2.2.2.1) (by have := hc.2.1; omega) (hv.okc hokc)
    simp only [Nat.add_zero] at hrun
    have hbn : b < h.cnt := hr.old hg
    have hb40 := hr.num40 hbn
    have hput : ∀ (t : Tr Ob) (K : Blk) x, (t.put b (.cells K)).get x = if x = b then some (.cells K) else t.get x := fun t K x => Tr.get_put t b x _ hb40
    cases vs with
    | nil =>
      simp only [Except.ok.injEq] at e
      subst e
      have hnil : vs' = [] := by cases hv; rfl
      subst hnil
      exact ⟨w, by simp [storeCells], hr, rfl, fun _ h => h, ⟨.cells c k.elem fr, by
        have := congrArg World.heap (putObj_same hob); unfold World.putObj at this; exact this.symm⟩, rfl, rfl, rfl⟩
    | cons v0 vs0 =>
      simp only at e
      refine ⟨_, hrun, ?_⟩
      have hcw : CellsR μ { k with cells := k.cells.puts o (v0 :: vs0) } B (wrA c o vs') fr := cells_puts hc hv hlen
      obtain ⟨K, hK⟩ : ∃ K : Blk, K = { k with cells := k.cells.puts o (v0 :: vs0) } := ⟨_, rfl⟩
      have hKs : K.size = k.size := by rw [hK]
      have hKe : K.elem = k.elem := by rw [hK]
      have hKf : K.fam = k.fam := by rw [hK]
      rw [← hK] at e hcw
      unfold wrF at e
      cases hfam : k.fam with
      | zero =>
        rw [hfam] at e
        simp only [Except.ok.injEq] at e
        subst e
        have hg0 : μ.g b = 0 := by have := hr.grp hg hm; simp only [famOf] at this; omega
        refine ⟨⟨HR.upd hr.toHR hm hg (ob := .cells K) (o := .cells (wrA c o vs') k.elem fr) rfl ?_ ?_ ⟨hKe.symm, hcw⟩ hKf rfl ?_, hr.fo⟩, rfl, ?_, ⟨_, rfl⟩, rfl, rfl, rfl⟩
        · intro x ob' hx
          simp only [hput] at hx
          split at hx
          · simp only [Option.some.injEq] at hx; exact .inl ⟨by assumption, hx.symm⟩
          · exact .inr ⟨by assumption, hx⟩
        · intro x ob' hne hx hX
          rcases hr.inj hX hm with h | ⟨h1, h2⟩
          · exact absurd h hne
          · rw [hg0] at h1; exact absurd h1 h2
        · intro x k' f hx hf
          simp only [hput] at hx
          split at hx
          · simp only [Option.some.injEq, Ob.cells.injEq] at hx
            subst hx; omega
          · exact hr.fam hx hf
        · intro x hx
          simp only [hput]
          split
          · rename_i e; rw [e, hg] at hx; cases hx
          · exact hx
      | succ f =>
        rw [hfam] at e
        simp only at e
        obtain ⟨hf1, st, hst, hin⟩ := hr.fam hg hfam
        rw [hst] at e
        simp only [Except.ok.injEq] at e
        subst e
        obtain ⟨c1, c2, c3⟩ := cull_spec (b := b) (lim := o) st h.obs (hr.fo f st hst).1 (hr.st40 hst)
        have hgb : μ.g b = f + 1 := by have := hr.grp hg hm; simp only [famOf] at this; omega
        have hf40 : f + 1 < 2 ^ 40 := hr.num40 hf1
        have hobs : ∀ x ob', ((cull h.obs b o st).1.put b (.cells K)).get x = some ob' →
            (x = b ∧ ob' = .cells K) ∨ (x ≠ b ∧ (cull h.obs b o st).1.get x = some ob' ∧ h.obs.get x = some ob') := by
          intro x ob' hx
          rw [hput] at hx
          split at hx
          · simp only [Option.some.injEq] at hx; exact .inl ⟨by assumption, hx.symm⟩
          · refine .inr ⟨by assumption, hx, ?_⟩
            rcases c1 x with h | h
            · rw [← h]; exact hx
            · rw [h.1] at hx; cases hx
        have hsize : k.size ≥ o + 1 := by simp only [List.length_cons] at hlen; omega
        refine ⟨⟨HR.upd hr.toHR hm hg (ob := .cells K) (o := .cells (wrA c o vs') k.elem fr) rfl
          (fun x ob' hx => (hobs x ob' hx).imp id fun h => ⟨h.1, h.2.2⟩) ?_ ⟨hKe.symm, hcw⟩ hKf rfl ?_, ?_⟩, rfl, ?_, ⟨_, rfl⟩, rfl, rfl, rfl⟩
        · intro x ob' hne hx hX
          rcases hobs x ob' hx with ⟨rfl, _⟩ | ⟨_, hcx, hox⟩
          · exact absurd rfl hne
          · obtain ⟨o', ho', hR'⟩ := hr.ob hox hX
            rw [hob] at ho'; cases ho'
            cases ob' with
            | cells k' =>
              simp only [ObR] at hR' ⊢
              refine ⟨hR'.1, ?_⟩
              have hfx : k'.fam = f + 1 := by
                have h1 := hr.grp hox hX; simp only [famOf] at h1
                rcases hr.inj hX hm with h | ⟨h, _⟩
                · exact absurd h hne
                · omega
              obtain ⟨_, st', hst', hin'⟩ := hr.fam hox hfx
              rw [hst] at hst'; cases hst'
              have hle : k'.size ≤ o := by
                rcases Nat.lt_or_ge o k'.size with h | h
                · rw [c2 x _ hin' h hne] at hcx; cases hcx
                · exact h
              exact cells_below hR'.2 (by have := hc.2.1; omega) hle
            | map es => simp only [ObR] at hR'
            | iter s p => simp only [ObR] at hR'
            | loop r => simp only [ObR] at hR'
        · intro x k' f' hx hf'
          rcases hobs x _ hx with ⟨rfl, he⟩ | ⟨hne, hcx, hox⟩
          · simp only [Ob.cells.injEq] at he
            subst he
            have : f' = f := by omega
            subst this
            exact ⟨hf1, _, by simp only; rw [Tr.get_put _ _ _ _ hf40, if_pos rfl], by simp [hKs]⟩
          · obtain ⟨q1, st', q2, q3⟩ := hr.fam hox hf'
            refine ⟨q1, ?_⟩
            by_cases e : f' = f
            · subst e
              rw [hst] at q2; cases q2
              refine ⟨_, by simp only; rw [Tr.get_put _ _ _ _ hf40, if_pos rfl], ?_⟩
              have hle : k'.size ≤ o := by
                rcases Nat.lt_or_ge o k'.size with h | h
                · rw [c2 x _ q3 h hne] at hcx; cases hcx
                · exact h
              simp [c3 x _ q3 hle]
            · exact ⟨st', by simp only; rw [Tr.get_put _ _ _ _ hf40, if_neg e]; exact q2, q3⟩
        · intro f' st' hs
          simp only at hs
          rw [Tr.get_put _ _ _ _ hf40] at hs
          split at hs
          · simp only [Option.some.injEq] at hs
            subst hs
            obtain ⟨z1, z2⟩ := cull_srt (b := b) (o := o) st h.obs (hr.fo f st hst).1
            refine ⟨List.pairwise_cons.2 ⟨fun p hp => ?_, z1⟩, fun c' s' hc' => ?_⟩
            · have := z2 p.1 p.2 hp; simp only; omega
            · rcases List.mem_cons.1 hc' with he | hc'
              · cases he; exact hbn
              · exact (hr.fo f st hst).2 c' s' (cull_mem st h.obs c' s' hc')
          · exact hr.fo f' st' hs
        · intro x hx
          simp only [hput]
          split
          · rename_i e; rw [e, hg] at hx; cases hx
          · rcases c1 x with h | h
            · rw [h]; exact hx
            · exact h.1
  | _ => simp [ObR] at hR
end Go.Ev
