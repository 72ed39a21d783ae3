/-
  By an AI agent: a part of the proof of this claim; what is proved stands in the text YtjinlihckmgioaaGreatDoorMain.
-/
import Derived.Test.YtjinlihckmgioaaGreatDoorEvRel
import Derived.RangeFuncRecord
set_option linter.unusedVariables false
set_option linter.unusedSimpArgs false
set_option linter.unusedSectionVars false
set_option linter.unusedVariables false
namespace Go.Ev
open Go

theorem add_eq (B o j : Nat) : (⟨B, o, none⟩ : Addr).add j = ⟨B, o + j, none⟩ := by
  unfold Addr.add; split <;> simp_all

theorem cell_of {w : World} {B i : Nat} {c : Array Value} {e : TypeId} {fr : Nat × Nat} (h : w.heap[B]? = some (.cells c e fr)) : w.cell? ⟨B, i, none⟩ = c[i]? := by
  simp [World.cell?, h]
theorem frozen_of {w : World} {B i : Nat} {c : Array Value} {e : TypeId} {fr : Nat × Nat} (h : w.heap[B]? = some (.cells c e fr)) (hf : ¬ (fr.1 ≤ i ∧ i < fr.2)) : w.frozen? ⟨B, i, none⟩ = false := by
  obtain ⟨lo, hi⟩ := fr
  simp only [World.frozen?, h]
  simp only [Bool.and_eq_false_iff, decide_eq_false_iff_not]
  simp only at hf
  omega

theorem setCell_put {w : World} {B i : Nat} {c : Array Value} {e : TypeId} {fr : Nat × Nat} {v : Value} (h : w.heap[B]? = some (.cells c e fr)) :
    w.setCell ⟨B, i, none⟩ v = w.putObj B (.cells (c.setIfInBounds i v) e fr) := by
  unfold World.setCell World.putObj
  congr 1
  apply Array.ext_getElem?
  intro j
  rw [Array.getElem?_modify, Array.getElem?_setIfInBounds]
  by_cases hj : B = j
  · subst hj
    have hlt : B < w.heap.size := (Array.getElem?_eq_some_iff.1 h).1
    have hval := (Array.getElem?_eq_some_iff.1 h).2
    simp [hlt, hval]
  · simp [hj]

def wrA (c : Array Value) (o : Nat) : List Value → Array Value
  | [] => c
  | v :: vs => wrA (c.setIfInBounds o v) (o + 1) vs

theorem wrA_size : ∀ (vs : List Value) (c : Array Value) (o : Nat), (wrA c o vs).size = c.size
  | [], c, o => rfl
  | v :: vs, c, o => by simp [wrA, wrA_size vs]

theorem wrA_get : ∀ (vs : List Value) (c : Array Value) (o i : Nat), o + vs.length ≤ c.size →
    (wrA c o vs)[i]? = if o ≤ i ∧ i < o + vs.length then vs[i - o]? else c[i]?
  | [], c, o, i, h => by simp only [wrA, List.length_nil]; rw [if_neg (by omega)]
  | v :: vs, c, o, i, h => by
    simp only [List.length_cons] at h ⊢
    simp only [wrA]
    rw [wrA_get vs _ _ _ (by simp; omega), Array.getElem?_setIfInBounds]
    by_cases h1 : o + 1 ≤ i ∧ i < o + 1 + vs.length
    · rw [if_pos h1, if_pos (by omega)]
      have : i - o = (i - (o + 1)) + 1 := by omega
      rw [this, List.getElem?_cons_succ]
    · rw [if_neg h1]
      by_cases h2 : o = i
      · subst h2
        rw [if_pos rfl, if_pos (by omega), if_pos (by omega)]; simp
      · rw [if_neg h2, if_neg (by omega)]

theorem putObj_heap {w : World} {B j : Nat} {o : Obj} : (w.putObj B o).heap[j]? = if j = B ∧ B < w.heap.size then some o else w.heap[j]? := by
  unfold World.putObj
  simp only
  rw [Array.getElem?_setIfInBounds]
  by_cases h : B = j
  · subst h; by_cases h2 : B < w.heap.size
    · simp [h2]
    · simp [h2]
  · have : ¬ j = B := fun e => h e.symm
    simp [h, this]

theorem putObj_put {w : World} {B : Nat} {o o' : Obj} : (w.putObj B o).putObj B o' = w.putObj B o' := by
  unfold World.putObj
  congr 1
  apply Array.ext_getElem?
  intro j
  simp only [Array.getElem?_setIfInBounds, Array.size_setIfInBounds]
  split <;> simp

theorem putObj_same {w : World} {B : Nat} {o : Obj} (h : w.heap[B]? = some o) : w.putObj B o = w := by
  unfold World.putObj
  have : w.heap.setIfInBounds B o = w.heap := by
    apply Array.ext_getElem?
    intro j
    rw [Array.getElem?_setIfInBounds]
    by_cases hj : B = j
    · subst hj; have := (Array.getElem?_eq_some_iff.1 h).1; have hval := (Array.getElem?_eq_some_iff.1 h).2; simp [this, hval]
    · simp [hj]
  rw [this]

theorem run_storeCells (P : Program) {B o : Nat} {e : TypeId} {fr : Nat × Nat} : ∀ (vs : List Value) (i : Nat) (c : Array Value) (w : World),
    w.heap[B]? = some (.cells c e fr) → (∀ j, j < c.size → ¬ (fr.1 ≤ j ∧ j < fr.2)) → o + i + vs.length ≤ c.size → (∀ x ∈ vs, x.oneCell' = true) →
    (storeCells ⟨B, o, none⟩ vs i).run P w = .ok () (w.putObj B (.cells (wrA c (o + i) vs) e fr))
  | [], i, c, w, h, _, _, _ => by simp [storeCells, wrA, putObj_same h]
  | v :: vs, i, c, w, h, hf, hl, ho => by
    simp only [List.length_cons] at hl
    have hc : w.cell? ⟨B, o + i, none⟩ = some c[o + i] := by rw [cell_of h]; exact Array.getElem?_eq_getElem (by omega)
    have hfz : w.frozen? ⟨B, o + i, none⟩ = false := frozen_of h (hf _ (by omega))
    have hlt : B < w.heap.size := (Array.getElem?_eq_some_iff.1 h).1
    simp only [storeCells, Sem.run_bind, add_eq, run_store _ _ _ _ _ (ho v (by simp)), hc, hfz, Bool.false_eq_true, if_false, Result.andThen]
    rw [setCell_put h]
    have h2 : (w.putObj B (.cells (c.setIfInBounds (o + i) v) e fr)).heap[B]? = some (.cells (c.setIfInBounds (o + i) v) e fr) := by rw [putObj_heap]; simp [hlt]
    rw [run_storeCells P vs (i + 1) _ _ h2 (by simpa using hf) (by simp; omega) (fun x hx => ho x (by simp [hx])), putObj_put]
    rfl

theorem run_loadCells' (P : Program) {w : World} {B o n : Nat} {c : Array Value} {e : TypeId} {fr : Nat × Nat} (h : w.heap[B]? = some (.cells c e fr)) (hl : o + n ≤ c.size) :
    (loadCells ⟨B, o, none⟩ n).run P w = .ok (c.extract o (o + n)) w := by
  have e1 : (c.extract o (o + n)).toList.length = n := by simp; omega
  have := run_loadCells_list (P := P) w ⟨B, o, none⟩ (c.extract o (o + n)).toList (fun j v hj => by
    rw [add_eq, cell_of h]
    rw [Array.getElem?_toList, Array.getElem?_extract] at hj
    split at hj
    · rw [← hj]
    · cases hj)
  rw [e1, Array.toArray_toList] at this
  exact this

theorem rdc_rel {μ : Mu} {k : Blk} {B : Nat} {c : Array Value} {fr : Nat × Nat} (h : CellsR μ k B c fr) : ∀ (n o : Nat), o + n ≤ k.size →
    VRL μ (rdc k.cells o n) (c.extract o (o + n)).toList := by
  intro n o hl
  have key : ∀ (n o : Nat), (rdc k.cells o n).length = n ∧ ∀ i, i < n → (rdc k.cells o n)[i]? = some (match k.cells.get (o + i) with | some v => v | none => psn) := by
    intro n
    induction n with
    | zero => intro o; simp [rdc_zero, rdc_succ]
    | succ n ih =>
      intro o
      refine ⟨by simp [rdc_zero, rdc_succ, (ih (o + 1)).1], fun i hi => ?_⟩
      cases i with
      | zero => simp only [rdc_zero, rdc_succ, List.getElem?_cons_zero, Nat.add_zero]; rfl
      | succ i =>
        simp only [rdc_zero, rdc_succ, List.getElem?_cons_succ]
        rw [(ih (o + 1)).2 i (by omega)]
        congr 2
        rw [show o + 1 + i = o + (i + 1) by omega]
  obtain ⟨h1, h2, h3, h4, h5⟩ := h
  refine VRL.of_get (by rw [(key n o).1]; simp; omega) fun i x y hx hy => ?_
  have hi : i < n := by
    have := (List.getElem?_eq_some_iff.1 hx).1
    rw [(key n o).1] at this; exact this
  rw [(key n o).2 i hi] at hx
  rw [Array.getElem?_toList, Array.getElem?_extract] at hy
  rw [if_pos (by omega)] at hy
  simp only [Option.some.injEq] at hx
  subst hx
  cases hg : k.cells.get (o + i) with
  | none => exact .psn _
  | some v =>
    obtain ⟨v', hv', hr⟩ := h5 (o + i) v (by omega) hg
    rw [hv'] at hy
    simp only [Option.some.injEq] at hy
    subst hy
    exact hr

/-! New blocks -/
def Mu.add (μ : Mu) (b B s g : Nat) : Mu := ⟨fun x => if x = b then some B else μ.m x, fun X => if X = B then s else μ.S X, fun x => if x = b then g else μ.g x, μ.ty⟩

theorem Mu.le_add {μ : Mu} {b B s g : Nat} (hb : μ.m b = none) (hB : ∀ x, μ.m x ≠ some B) : μ.le (μ.add b B s g) := by
  refine ⟨fun {x X} h => ?_, fun {x X} h => ?_, fun {x X} h => ?_, rfl⟩
  · have : x ≠ b := fun e => by rw [e, hb] at h; cases h
    simp [Mu.add, this, h]
  · have : X ≠ B := fun e => hB x (e ▸ h)
    simp [Mu.add, this]
  · have : x ≠ b := fun e => by rw [e, hb] at h; cases h
    simp [Mu.add, this]

theorem HR.fresh {μ : Mu} {base : Nat} {h : Hp} {w : World} (hr : HR μ base h w) (x : Nat) : μ.m x ≠ some w.heap.size :=
  fun e => by have := (hr.oldm e).2.2; omega

theorem HR.alloc {μ : Mu} {base : Nat} {h : Hp} {w : World} (hr : HR μ base h w) {id s g : Nat} (hm : μ.m id = none) {h' : Hp} {w' : World} {ob : Ob} {o : Obj}
    (hbase : base ≤ w.heap.size) (hw : w'.heap = w.heap.push o)
    (hobs : ∀ x ob', h'.obs.get x = some ob' → (x = id ∧ ob' = ob) ∨ (x ≠ id ∧ h.obs.get x = some ob'))
    (hcnt : h.cnt ≤ h'.cnt) (hid : id < h'.cnt) (hc : h'.cnt ≤ maxCnt)
    (hob : ObR (μ.add id w.heap.size s g) w.heap.size ob o) (hgf : famOf ob = g)
    (hfam : ∀ {b k f}, h'.obs.get b = some (.cells k) → k.fam = f + 1 → f < h'.cnt ∧ ∃ st, h'.fams.get f = some st ∧ (b, k.size) ∈ st) :
    HR (μ.add id w.heap.size s g) base h' w' := by
  have hle : μ.le (μ.add id w.heap.size s g) := Mu.le_add hm hr.fresh
  have hmx : ∀ {x X}, x ≠ id → (μ.add id w.heap.size s g).m x = some X → μ.m x = some X := fun hx h => by simpa [Mu.add, hx] using h
  have hmid : (μ.add id w.heap.size s g).m id = some w.heap.size := by simp [Mu.add]
  refine ⟨?_, ?_, ?_, hfam, hc, ?_, ?_⟩
  · intro b ob' B hb hB
    rcases hobs _ _ hb with ⟨rfl, rfl⟩ | ⟨hne, hold⟩
    · rw [hmid] at hB; cases hB
      exact ⟨o, by rw [hw]; simp, hob⟩
    · have hB' := hmx hne hB
      obtain ⟨o', ho', hr'⟩ := hr.ob hold hB'
      have := (hr.oldm hB').2.2
      exact ⟨o', by rw [hw, Array.getElem?_push]; rw [if_neg (by omega)]; exact ho', hr'.mono hle hB'⟩
  · intro b ob' B hb hB
    rcases hobs _ _ hb with ⟨rfl, rfl⟩ | ⟨hne, hold⟩
    · simp [Mu.add, hgf]
    · rw [hr.grp hold (hmx hne hB)]; simp [Mu.add, hne]
  · intro b1 b2 B h1 h2
    by_cases e1 : b1 = id
    · by_cases e2 : b2 = id
      · exact .inl (e1.trans e2.symm)
      · rw [e1, hmid] at h1; cases h1
        exact absurd (hmx e2 h2) (hr.fresh _)
    · by_cases e2 : b2 = id
      · rw [e2, hmid] at h2; cases h2
        exact absurd (hmx e1 h1) (hr.fresh _)
      · rcases hr.inj (hmx e1 h1) (hmx e2 h2) with h | ⟨ha, hb⟩
        · exact .inl h
        · exact .inr (by simp only [Mu.add, e1, e2, if_false]; exact ⟨ha, hb⟩)
  · intro b ob' hb
    rcases hobs _ _ hb with ⟨rfl, rfl⟩ | ⟨hne, hold⟩
    · exact hid
    · exact Nat.lt_of_lt_of_le (hr.old hold) hcnt
  · intro b B hB
    have hsz : w'.heap.size = w.heap.size + 1 := by rw [hw]; simp
    by_cases e : b = id
    · rw [e, hmid] at hB; cases hB
      exact ⟨e ▸ hid, hbase, by omega⟩
    · have := hr.oldm (hmx e hB)
      exact ⟨by omega, this.2.1, by omega⟩

/-- A block is turned (its number stands); others of its family that last stand well over what is there now. -/
theorem HR.upd {μ : Mu} {base : Nat} {h : Hp} {w : World} (hr : HR μ base h w) {b B : Nat} {ob0 : Ob} (hmb : μ.m b = some B) (hgb : h.obs.get b = some ob0) {h' : Hp} {w' : World} {ob : Ob} {o : Obj}
    (hw : w'.heap = w.heap.setIfInBounds B o)
    (hobs : ∀ x ob', h'.obs.get x = some ob' → (x = b ∧ ob' = ob) ∨ (x ≠ b ∧ h.obs.get x = some ob'))
    (hoth : ∀ x ob', x ≠ b → h'.obs.get x = some ob' → μ.m x = some B → ObR μ B ob' o)
    (hob : ObR μ B ob o) (hf : famOf ob = famOf ob0) (hcnt : h'.cnt = h.cnt)
    (hfam : ∀ {b k f}, h'.obs.get b = some (.cells k) → k.fam = f + 1 → f < h'.cnt ∧ ∃ st, h'.fams.get f = some st ∧ (b, k.size) ∈ st) :
    HR μ base h' w' := by
  have hBlt := (hr.oldm hmb).2.2
  have hnew : w'.heap[B]? = some o := by rw [hw, Array.getElem?_setIfInBounds]; simp [hBlt]
  refine ⟨?_, ?_, hr.inj, hfam, by rw [hcnt]; exact hr.cnt, ?_, ?_⟩
  · intro x ob' X hx hX
    rcases hobs _ _ hx with ⟨rfl, rfl⟩ | ⟨hne, hold⟩
    · rw [hmb] at hX; cases hX
      exact ⟨o, hnew, hob⟩
    · by_cases e : X = B
      · subst e; exact ⟨o, hnew, hoth x ob' hne hx hX⟩
      · obtain ⟨o', ho', hr'⟩ := hr.ob hold hX
        exact ⟨o', by rw [hw, Array.getElem?_setIfInBounds, if_neg (fun h => e h.symm)]; exact ho', hr'⟩
  · intro x ob' X hx hX
    rcases hobs _ _ hx with ⟨rfl, rfl⟩ | ⟨hne, hold⟩
    · rw [hf]; exact hr.grp hgb hX
    · exact hr.grp hold hX
  · intro x ob' hx
    rw [hcnt]
    rcases hobs _ _ hx with ⟨rfl, rfl⟩ | ⟨hne, hold⟩
    · exact hr.old hgb
    · exact hr.old hold
  · intro x X hX
    have := hr.oldm hX
    rw [hcnt, hw]
    simpa using this

/-- A new number for a block that is there: a row that was appended to in place. -/
theorem HR.share {μ : Mu} {base : Nat} {h : Hp} {w : World} (hr : HR μ base h w) {b b2 B f : Nat} (hmb : μ.m b = some B) (hgb : μ.g b = f + 1) (hm2 : μ.m b2 = none)
    {h' : Hp} {w' : World} {ob : Ob} {o : Obj} (hw : w'.heap = w.heap.setIfInBounds B o)
    (hobs : ∀ x ob', h'.obs.get x = some ob' → (x = b2 ∧ ob' = ob) ∨ (x ≠ b2 ∧ h.obs.get x = some ob'))
    (hoth : ∀ x ob', x ≠ b2 → h'.obs.get x = some ob' → μ.m x = some B → ObR μ B ob' o)
    (hob : ObR μ B ob o) (hf : famOf ob = f + 1) (hcnt : h.cnt ≤ h'.cnt) (hid : b2 < h'.cnt) (hc : h'.cnt ≤ maxCnt)
    (hfam : ∀ {b k f}, h'.obs.get b = some (.cells k) → k.fam = f + 1 → f < h'.cnt ∧ ∃ st, h'.fams.get f = some st ∧ (b, k.size) ∈ st) :
    μ.le (μ.add b2 B (μ.S B) (f + 1)) ∧ HR (μ.add b2 B (μ.S B) (f + 1)) base h' w' := by
  have hBlt := (hr.oldm hmb).2.2
  have hnew : w'.heap[B]? = some o := by rw [hw, Array.getElem?_setIfInBounds]; simp [hBlt]
  have hle : μ.le (μ.add b2 B (μ.S B) (f + 1)) := by
    refine ⟨fun {x X} h => ?_, fun {x X} h => ?_, fun {x X} h => ?_, rfl⟩
    · have : x ≠ b2 := fun e => by rw [e, hm2] at h; cases h
      simp [Mu.add, this, h]
    · simp only [Mu.add]; split <;> simp_all
    · have : x ≠ b2 := fun e => by rw [e, hm2] at h; cases h
      simp [Mu.add, this]
  have hmx : ∀ {x X}, x ≠ b2 → (μ.add b2 B (μ.S B) (f + 1)).m x = some X → μ.m x = some X := fun hx h => by simpa [Mu.add, hx] using h
  have hmid : (μ.add b2 B (μ.S B) (f + 1)).m b2 = some B := by simp [Mu.add]
  refine ⟨hle, ?_, ?_, ?_, hfam, hc, ?_, ?_⟩
  · intro x ob' X hx hX
    rcases hobs _ _ hx with ⟨rfl, rfl⟩ | ⟨hne, hold⟩
    · rw [hmid] at hX; cases hX
      exact ⟨o, hnew, by
        cases ob' <;> cases o <;> simp only [ObR] at hob ⊢
        · obtain ⟨h1, h2, h3, h4, h5, h6⟩ := hob
          exact ⟨h1, by simpa [Mu.add] using h2, h3, h4, h5, fun i v hi hv => let ⟨v', a, b⟩ := h6 i v hi hv; ⟨v', a, b.mono hle⟩⟩
        · exact hob.mono hle
        · exact hob
        · exact ⟨hob.1.mono hle, hob.2.1, by rw [hle.ty]; exact hob.2.2.1, by rw [hle.ty]; exact hob.2.2.2.1, hob.2.2.2.2⟩⟩
    · have hX' := hmx hne hX
      by_cases e : X = B
      · subst e; exact ⟨o, hnew, (hoth x ob' hne hx hX').mono hle hX'⟩
      · obtain ⟨o', ho', hr'⟩ := hr.ob hold hX'
        exact ⟨o', by rw [hw, Array.getElem?_setIfInBounds, if_neg (fun h => e h.symm)]; exact ho', hr'.mono hle hX'⟩
  · intro x ob' X hx hX
    rcases hobs _ _ hx with ⟨rfl, rfl⟩ | ⟨hne, hold⟩
    · simp [Mu.add, hf]
    · rw [hr.grp hold (hmx hne hX)]; simp [Mu.add, hne]
  · intro b1 b3 X h1 h3
    have gb2 : (μ.add b2 B (μ.S B) (f + 1)).g b2 = f + 1 := by simp [Mu.add]
    have gx : ∀ x, x ≠ b2 → (μ.add b2 B (μ.S B) (f + 1)).g x = μ.g x := fun x hx => by simp [Mu.add, hx]
    have samef : ∀ x, x ≠ b2 → μ.m x = some B → μ.g x = f + 1 := fun x hx hX => by
      rcases hr.inj hX hmb with e | ⟨e, _⟩
      · rw [e]; exact hgb
      · rw [e]; exact hgb
    by_cases e1 : b1 = b2
    · by_cases e2 : b3 = b2
      · exact .inl (e1.trans e2.symm)
      · rw [e1, hmid] at h1; cases h1
        right; rw [e1, gb2, gx _ e2, samef _ e2 (hmx e2 h3)]; simp
    · by_cases e2 : b3 = b2
      · rw [e2, hmid] at h3; cases h3
        right; rw [e2, gb2, gx _ e1, samef _ e1 (hmx e1 h1)]; simp
      · rw [gx _ e1, gx _ e2]; exact hr.inj (hmx e1 h1) (hmx e2 h3)
  · intro x ob' hx
    rcases hobs _ _ hx with ⟨rfl, rfl⟩ | ⟨hne, hold⟩
    · exact hid
    · exact Nat.lt_of_lt_of_le (hr.old hold) hcnt
  · intro x X hX
    have hsz : w'.heap.size = w.heap.size := by rw [hw]; simp
    by_cases e : x = b2
    · rw [e, hmid] at hX; cases hX
      have := hr.oldm hmb
      exact ⟨e ▸ hid, this.2.1, by omega⟩
    · have := hr.oldm (hmx e hX)
      exact ⟨by omega, this.2.1, by omega⟩
end Go.Ev
