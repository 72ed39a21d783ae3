/-
  By an AI agent: a part of the proof of this claim; what is proved stands in the text YtjinlihckmgioaaGreatDoorMain.
-/
import Derived.Test.YtjinlihckmgioaaGreatDoorEvOp8
import Derived.IntWalk
set_option linter.unusedVariables false
set_option linter.unusedSimpArgs false
set_option linter.unusedSectionVars false
set_option linter.unusedVariables false
set_option linter.unusedSimpArgs false
set_option linter.unusedSectionVars false
namespace Go.Ev
open Go

/-- What a step with a value has done. -/
def DidV (id base : Nat) (μ : Mu) (h : Hp) (w : World) (rs : Rs) (r : Result Value) : Prop :=
  ∃ v h' μ' w' v', rs = .val v h' ∧ r = .ok v' w' ∧ VR μ' v v' ∧ HW μ' base h' w' ∧ Mv (· = id) μ h w μ' h' w'

theorem DidV.of {id base : Nat} {μ : Mu} {h : Hp} {w : World} {v : Value} {h' : Hp} {v1 : Value} {w1 : World} (d : Did id base μ h w v h' (.ok (.value v1) w1)) : DidV id base μ h w (.val v h') (.ok v1 w1) := by
  obtain ⟨μ', w', nx, e1, e2, e3, e4⟩ := d
  injection e1 with e1 e1'
  subst e1'
  rcases e2 with ⟨v', e, hv⟩ | ⟨e, _⟩
  · rw [← e1] at e; injection e with e; subst e
    exact ⟨_, _, _, _, _, rfl, rfl, hv, e3, e4⟩
  · rw [← e1] at e; cases e

theorem DidV.same {id base : Nat} {μ : Mu} {h : Hp} {w : World} {v v' : Value} (hr : HW μ base h w) (hv : VR μ v v') : DidV id base μ h w (.val v h) (.ok v' w) :=
  ⟨v, h, μ, w, v', rfl, rfl, hv, hr, .refl _ _ _ _⟩

theorem wr_did {id base : Nat} {μ : Mu} {h h' : Hp} {w : World} {P : Program} {b B o : Nat} {vs vs' : List Value} (hr : HW μ base h w) (hm : μ.m b = some B) (hv : VRL μ vs vs') (e : wr h b o vs = .ok h') :
    ∃ w', (storeCells ⟨B, o, none⟩ vs').run P w = .ok () w' ∧ HW μ base h' w' ∧ Mv (· = id) μ h w μ h' w' := by
  have hal : ∃ ob, h.obs.get b = some ob := by
    unfold wr at e; obtain ⟨k, hk, _⟩ := bnd_ok e; exact ⟨_, getBlk_ok hk⟩
  obtain ⟨obb, hobb⟩ := hal
  obtain ⟨w', hrun, hr', hc', hdead, ⟨obj, hobj⟩, hos, hou, hta⟩ := wr_rel (P := P) hr hm hv e
  refine ⟨w', hrun, hr', .refl μ, Nat.le_of_eq hc'.symm, fun x _ _ hgx => hdead x hgx, fun x B h1 h2 => (by rw [h1] at h2; cases h2), (by rw [hobj]; simp), fun X hX hn => ?_, hos, hou, hta⟩
  have hne : X ≠ B := fun e => hn b obb (e ▸ hm) hobb
  rw [hobj, Array.getElem?_setIfInBounds, if_neg (fun e => hne e.symm)]

section
variable {P : Program} {id base : Nat} {μ : Mu} {h : Hp} {w : World} (hr : HW μ base h w) (hb : base ≤ w.heap.size)
include hr hb

theorem append_sim {st : TypeId} {ts : Array TypeId} {et : TypeId} {de : TD} (hTe : TyOk P et de) (h0 : ts[0]? = some st) (hst : P.underlying st = some (.slice et)) {type : TypeId}
    (hz : ∀ xt, ts[1]? = some xt → ∃ dd, P.underlying xt = some dd ∧ ∀ k, dd ≠ .int k) {s s' x x' : Value} (hs : VR μ s s') (hx : VR μ x x') {rs : Rs} (e : appendC de et h s x = .ok rs) :
    DidV id base μ h w rs ((Builtin.append_ ts type #[s', x']).run P w) := by
  unfold appendC appN appR appG appE appF at e
  cases s with
  | slice sb len cap =>
    simp only at e
    obtain ⟨n, hn, e1⟩ := bnd_ok e
    clear e
    obtain ⟨new, hnew, e2⟩ := bnd_ok e1
    clear e1
    have hnr := lenC_rel (P := P) (w := w) hx hn
    have hnl := firstC_len hn (Nat.le_refl _) hnew
    obtain ⟨new', hnew', hnv⟩ := firstC_rel (P := P) hr hx hn (Nat.le_refl _) hnew
    have hrd : HW μ base h w.drew := hr.heap rfl
    obtain ⟨new2, hnew2, hnv2⟩ := firstC_rel (P := P) hrd hx hn (Nat.le_refl _) hnew
    have hvl := hnv2.length
    cases hroom : Nat.ble (len + n) cap with
    | true =>
      have hroom := Nat.le_of_ble_eq_true hroom
      simp only [hroom, Nat.ble_eq_true_of_le hroom] at e2
      cases sb with
      | none =>
        simp only [Except.ok.injEq] at e2; subst e2
        cases hs
        have := append_room (P := P) (w := w) (w' := w) hTe h0 hst (type := type) (base := none) (sl := len) (sc := cap) hz hnr hroom hnew' rfl
        rw [this]
        exact DidV.same hr (.sl0 _ _)
      | some a =>
        simp only at e2
        obtain ⟨h', hw, e3⟩ := bnd_ok e2
        clear e2
        simp only [Except.ok.injEq] at e3; subst e3
        rcases hs.sl_inv with ⟨b, B, off, rfl, hbB, rfl⟩ | ⟨b, B, off, es, c', rfl, hbB, hc, hsz, rfl⟩ | ⟨b, off, a', c', rfl, rfl, rfl, hsp, rfl⟩
        · obtain ⟨w', hrun, hr', hmv⟩ := wr_did (P := P) (id := id) hr hbB hnv hw
          have := append_room (P := P) (w := w) (w' := w') hTe h0 hst (type := type) (base := some ⟨B, off, none⟩) (sl := len) (sc := cap) hz hnr hroom hnew' (by simp only [add_eq]; exact hrun)
          rw [this]
          exact ⟨_, _, _, _, _, rfl, rfl, .sl _ _ _ hbB, hr', hmv⟩
        · obtain ⟨w', hrun, hr', hmv⟩ := wr_did (P := P) (id := id) hr hbB hnv hw
          have := append_room (P := P) (w := w) (w' := w') hTe h0 hst (type := type) (base := some ⟨B, off, none⟩) (sl := len) (sc := c') hz hnr (by omega) hnew' (by simp only [add_eq]; exact hrun)
          rw [this]
          exact ⟨_, _, _, _, _, rfl, rfl, .slg _ _ _ hbB hc hsz, hr', hmv⟩
        · have hn0 : n = 0 := by omega
          subst hn0
          have hnil : new = [] := by rw [← List.length_eq_zero_iff]; simpa using hnl
          subst hnil
          have hnil' : new'.toList = [] := by
            have := hnv.length
            rw [← List.length_eq_zero_iff]; simpa using this.symm
          have hh : h' = h := by
            unfold wr at hw
            obtain ⟨k, hk, e1⟩ := bnd_ok hw
            obtain ⟨_, e2⟩ := chk_ok e1
            obtain ⟨_, e3⟩ := chk_ok e2
            simp only [Except.ok.injEq] at e3
            exact e3.symm
          subst hh
          have := append_room (P := P) (w := w) (w' := w) hTe h0 hst (type := type) (base := some a') (sl := 0) (sc := c') hz hnr (by omega) hnew' (by rw [hnil']; simp [storeCells])
          rw [this]
          exact DidV.same hr (.sle _ _ hsp)
    | false =>
      have hroom : cap < len + n := by
        rcases Nat.lt_or_ge cap (len + n) with h | h
        · exact h
        · rw [Nat.ble_eq_true_of_le h] at hroom; cases hroom
      simp only [show Nat.ble (len + n) cap = false by
        cases hh : Nat.ble (len + n) cap with
        | true => have := Nat.le_of_ble_eq_true hh; omega
        | false => rfl] at e2
      obtain ⟨hck, e3⟩ := chk_ok e2
      clear e2
      simp only [Bool.and_eq_true] at hck
      obtain ⟨⟨⟨hk1, hk2⟩, hk3⟩, hk4⟩ := hck
      have hk1 := Nat.le_of_ble_eq_true hk1
      have hk2 := Nat.le_of_ble_eq_true hk2
      have hk3 := blt_true hk3
      have hk4 := blt_true hk4
      have hbig : bigSize = 100000000 := rfl
      have hneed : len + n < bigSize := by
        have : len + n ≤ (len + n) * de.size := Nat.le_mul_of_pos_right _ hk1
        omega
      have hsize : ∃ es, de.size = es + 1 := ⟨de.size - 1, by omega⟩
      obtain ⟨es1, hes1⟩ := hsize
      have hmul : (len + n) * de.size = len * de.size + n * de.size := Nat.add_mul ..
      cases sb with
      | none =>
        simp only at e3
        obtain ⟨hl0, e4⟩ := chk_ok e3
        clear e3
        have hl0 := Nat.eq_of_beq_eq_true hl0
        subst hl0
        cases hs
        obtain ⟨cap', rest, hle, hrs, hrun⟩ := append_grow (P := P) (w := w) hTe h0 hst (type := type) (base := none) (sl := 0) (sc := cap) (x := x') (old := #[]) (new := new2) hz hnr hroom hk3 hneed rfl hnew2
        rw [hrun]
        rw [hes1] at e4
        have hl2 : new2.size = n * de.size := by simp at hvl; omega
        have hcs : cap' * de.size = (cap' - (0 + n)) * de.size + n * de.size := by rw [← Nat.add_mul]; congr 1; omega
        obtain ⟨v, h', rfl, hd⟩ := grown_rel (id := id) hr hb hnv2 e4 (c := #[] ++ new2 ++ rest) (fr := (0, 0)) (w' := w.drew.alloc (.cells (#[] ++ new2 ++ rest) et)) rfl rfl rfl rfl
          (by intro i hi; simp at hi; simp [Array.getElem?_append, hi]) (by simp) (.inl rfl) (cap' := cap') hle (by rw [← hes1]; simp; omega)
        exact DidV.of hd
      | some a =>
        simp only at e3
        obtain ⟨old, hold, e4⟩ := bnd_ok e3
        clear e3
        have hold0 := hold
        unfold rd at hold0
        obtain ⟨k, hk, hh1⟩ := bnd_ok hold0
        obtain ⟨hl, hh2⟩ := chk_ok hh1
        have hl := Nat.le_of_ble_eq_true hl
        simp only [Except.ok.injEq] at hh2
        subst hh2
        clear hh1 hold0
        rcases hs.sl_inv with ⟨b, B, off, rfl, hbB, rfl⟩ | ⟨b, B, off, es, c', rfl, hbB, hc, hsz, rfl⟩ | ⟨b, off, a', c', rfl, rfl, rfl, hsp, rfl⟩
        · simp only at e4 hl
          obtain ⟨ob, hob, hR⟩ := hr.ob (getBlk_ok hk) hbB
          cases ob with
          | cells cc el fr =>
            simp only [ObR] at hR
            have hro := rdc_rel hR.2 (len * de.size) off hl
            obtain ⟨cap', rest, hle, hrs, hrun⟩ := append_grow (P := P) (w := w) hTe h0 hst (type := type) (base := some ⟨B, off, none⟩) (sl := len) (sc := cap) (x := x') (old := cc.extract off (off + len * de.size)) (new := new2) hz hnr hroom hk3 hneed
              (by simp only [Builtin.firstCells]; exact run_loadCells' P (w := w.drew) hob (by have := hR.2.2.1; omega)) hnew2
            rw [hrun]
            rw [hes1] at e4
            have hl2 : new2.size = n * de.size := by simp at hvl; omega
            have hl3 : (cc.extract off (off + len * de.size)).size = len * de.size := by have := hro.length; rw [rdc_length, Array.length_toList] at this; exact this.symm
            have hcs : cap' * de.size = (cap' - (len + n)) * de.size + (len + n) * de.size := by rw [← Nat.add_mul]; congr 1; omega
            rw [← hes1] at e4
            have hvv : VRL μ (rdc k.cells off (len * de.size) ++ new) (cc.extract off (off + len * de.size) ++ new2).toList := by
              rw [Array.toList_append]; exact hro.app hnv2
            obtain ⟨v, h', rfl, hd⟩ := grown_rel (id := id) (es := es1) (n := len + n) hr hb hvv (by rw [← hes1]; exact e4) (c := cc.extract off (off + len * de.size) ++ new2 ++ rest) (fr := (0, 0)) (w' := w.drew.alloc (.cells (cc.extract off (off + len * de.size) ++ new2 ++ rest) et)) rfl rfl rfl rfl
              (by intro i hi; rw [Array.length_toList] at hi; rw [Array.getElem?_append_left hi, Array.getElem?_toList]) (by rw [Array.length_toList, Array.size_append (xs := cc.extract off (off + len * de.size) ++ new2)]; omega) (.inl rfl) (cap' := cap') hle (by rw [← hes1, Array.size_append, Array.size_append, hl3, hl2, hrs]; omega)
            exact DidV.of hd
          | _ => simp [ObR] at hR
        · simp only at e4 hl
          obtain ⟨hck, e5⟩ := chk_ok e4
          clear e4
          simp only [Bool.and_eq_true] at hck
          have hes := Nat.eq_of_beq_eq_true hck.1
          have hoff := Nat.eq_of_beq_eq_true hck.2
          subst hoff
          rw [hk] at e5
          simp only [bnd] at e5
          obtain ⟨hck2, e6⟩ := chk_ok e5
          clear e5
          simp only [Bool.and_eq_true] at hck2
          have hcnt := blt_true hck2.1.2
          have hel := Nat.eq_of_beq_eq_true hck2.2
          cases hkf : k.fam with
          | zero => rw [hkf] at e6; cases e6
          | succ f =>
            rw [hkf] at e6
            simp only at e6
            obtain ⟨hf1, st', hst', hin⟩ := hr.fam (getBlk_ok hk) hkf
            rw [hst'] at e6
            simp only [Except.ok.injEq] at e6
            subst e6
            obtain ⟨ob, hob, hR⟩ := hr.ob (getBlk_ok hk) hbB
            cases ob with
            | cells cc el fr =>
              simp only [ObR] at hR
              obtain ⟨rfl, hR⟩ := hR
              have hlim : len * de.size ≤ k.size := by omega
              have hbs : len * de.size + new.length ≤ bigSize := by rw [hnl]; omega
              obtain ⟨K, hK⟩ : ∃ K : Blk, K = { cells := k.cells.puts (len * de.size) new, size := len * de.size + new.length, elem := k.elem, fam := f + 1 } := ⟨_, rfl⟩
              have hKf : K.fam = f + 1 := by rw [hK]
              have hsp : (⟨(cull h.obs h.cnt (len * de.size) st').1.put h.cnt (.cells ⟨k.cells.puts (len * de.size) new, (len + n) * de.size, k.elem, f + 1⟩), h.cnt + 1,
                h.fams.put f ((h.cnt, (len + n) * de.size) :: (cull h.obs h.cnt (len * de.size) st').2)⟩ : Hp) = spread h f (len * de.size) st' K := by
                unfold spread
                rw [hK, hmul, hnl]
              rw [hsp]
              rw [Nat.zero_add, hes] at hsz
              by_cases hroom' : len + n ≤ c'
              · have hfit : len * de.size + new.length ≤ cc.size := by
                  rw [hnl, ← hmul, hR.1]
                  have : (len + n) * de.size ≤ c' * de.size := Nat.mul_le_mul_right _ hroom'
                  omega
                have hrunS := run_storeCells P (o := len * de.size) new'.toList 0 cc w hob (not_frozen hR.2.2.2.1) (by have := hnv.length; omega) (hnv.okc hck2.1.1)
                obtain ⟨g1, g2⟩ := spread_in hr hst' hf1 hcnt hKf (getBlk_ok hk) hbB hkf hob hR hnv hlim hfit hbs hK id
                have := append_room (P := P) (w := w) hTe h0 hst (type := type) (base := some ⟨B, 0, none⟩) (sl := len) (sc := c') hz hnr hroom' hnew' (by simp only [add_eq, Nat.zero_add]; exact hrunS)
                rw [this]
                refine ⟨_, _, _, _, _, rfl, rfl, .slg 0 es (len + n) (by simp [Mu.add]) hroom' ?_, g1, g2⟩
                rw [hes]
                simp only [Mu.add, if_true]; omega
              · have hro := rdc_rel hR (len * de.size) 0 (by omega)
                obtain ⟨cap', rest, hle, hrs, hrun⟩ := append_grow (P := P) (w := w) hTe h0 hst (type := type) (base := some ⟨B, 0, none⟩) (sl := len) (sc := c') (x := x') (old := cc.extract 0 (0 + len * de.size)) (new := new2) hz hnr (by omega) hk3 hneed
                  (by simp only [Builtin.firstCells]; exact run_loadCells' P (w := w.drew) hob (by have := hR.2.1; omega)) hnew2
                rw [hrun]
                have hl2 : new2.size = n * de.size := by simp at hvl; omega
                have hl3 : (cc.extract 0 (0 + len * de.size)).size = len * de.size := by have := hro.length; rw [rdc_length, Array.length_toList] at this; exact this.symm
                have hcs : cap' * de.size = (cap' - (len + n)) * de.size + (len + n) * de.size := by rw [← Nat.add_mul]; congr 1; omega
                subst hel
                obtain ⟨g1, g2⟩ := spread_out hr hst' hf1 hcnt hKf hb (getBlk_ok hk) hbB hkf hob hR hnv2 hlim hbs (c2 := cc.extract 0 (0 + len * de.size) ++ new2 ++ rest)
                  (by intro i hi; rw [Array.append_assoc, Array.getElem?_append_left (by omega), Array.getElem?_extract]; rw [if_pos (by have := hR.2.1; omega)]; simp)
                  (by intro i hi
                      simp at hi
                      rw [Array.getElem?_append_left (by rw [Array.size_append]; omega), Array.getElem?_append_right (by omega), hl3, Nat.add_sub_cancel_left, Array.getElem?_toList])
                  (by rw [Array.size_append, Array.size_append, hl3, Array.length_toList]; omega) hK (w' := w.drew.alloc (.cells (cc.extract 0 (0 + len * de.size) ++ new2 ++ rest) k.elem)) rfl rfl rfl rfl id
                refine ⟨_, _, _, _, _, rfl, rfl, .slg 0 es (len + n) (by simp [Mu.add]) hle ?_, g1, g2⟩
                simp only [Mu.add, if_true]
                rw [Array.size_append, Array.size_append, hl3, hl2, hrs, hes]; omega
            | _ => simp [ObR] at hR
        · simp only at e4
          obtain ⟨hck, e5⟩ := chk_ok e4
          simp only [Bool.and_eq_true] at hck
          have := Nat.eq_of_beq_eq_true hck.1
          omega
  | _ => cases e
end

/-- append(nil, make([]T, n)...) -/
theorem append_zeros {P : Program} {w : World} {st xt : TypeId} {ts : Array TypeId} {et : TypeId} {de : TD} {kx : IntKind} (hTe : TyOk P et de) (h0 : ts[0]? = some st) (hst : P.underlying st = some (.slice et)) {type : TypeId}
    (h1 : ts[1]? = some xt) (hu : P.underlying xt = some (.int kx)) {n : Nat} {k : IntKind} (hn0 : 0 < n) (hb : n * de.bytes < bigSize) (hb1 : n < bigSize) (hs0 : 0 < de.size) :
    ∃ cap' rest, n ≤ cap' ∧ rest.size = (cap' - n) * de.size ∧
      (Builtin.append_ ts type #[.slice none 0 0, .int k (.ofNat n)]).run P w = .ok (.slice (some ⟨w.heap.size, 0, none⟩) n cap') (w.drew.alloc (.cells (Builtin.zeroCells de.zv.cells n ++ rest) et)) := by
  obtain ⟨i, hi, i1, i2, i3⟩ := hTe.runInfo
  have hbig : bigSize = 100000000 := rfl
  have hfit := growslice_fits (need := n) (old := 0) (bytes := de.bytes) hn0 (by omega)
  obtain ⟨cap', hcap'⟩ : ∃ cap', cap' = n + w.tape w.drawn (.appendCap n 0 et) % (2 ^ 63 - n) := ⟨_, rfl⟩
  have hch : (choose (.appendCap n 0 et)).run P w = .ok cap' w.drew := by
    rw [hcap']; simp [Question.forced, Question.cut]
  refine ⟨cap', Builtin.zeroCells de.zv.cells (cap' - n), by omega, ?_, ?_⟩
  · have : de.zv.cells.size = de.size := by have := hTe.len; rw [← hTe.cells] at this; simpa using this
    simp [Builtin.zeroCells, this]
  · have c1 : ¬ (n ≤ 0) := by omega
    have hwr : IntKind.i64.wrap (Int.ofNat n) = (n : Int) := IntWalk.i64_in (n : Int) (by omega)
    have c0 : ¬ ((n : Int) < 0) := by omega
    have c4 : ¬ ((n : Int) * (i.bytes : Int) > 2 ^ 48) := by
      have : ((n * de.bytes : Nat) : Int) < 100000000 := Int.ofNat_lt.2 (by omega : n * de.bytes < 100000000)
      rw [i2]; rw [Int.natCast_mul] at this; omega
    have c2 : ¬ ((n : Int) > IntKind.i64.max ∧ (True ∨ i.bytes = 0)) := by
      have : IntKind.i64.max = 9223372036854775807 := by decide
      rw [this]; omega
    have c3 : ¬ (Builtin.nextslicecap n 0 * i.bytes > 2 ^ 48) := by rw [i2]; omega
    have c5 : ¬ (n * de.size = 0) := by
      have := Nat.mul_pos hn0 hs0; omega
    have hai : ∀ w, (asInt (.int k (.ofNat n))).run P w = .ok (Int.ofNat n) w := fun w => by simp [asInt, asIntOf]
    unfold Builtin.append_
    simp only [h0, h1]
    simp only [List.getElem?_toArray, List.getElem?_cons_zero, List.getElem?_cons_succ, Sem.run_bind, run_underlying hst, run_underlying hu, Result.andThen_ok, hTe.runSize]
    simp only [Sem.run_bind, Sem.run_pure, Result.andThen_ok, if_true, hai, hwr, c0, if_false, hi, c4, Int.toNat_natCast, Nat.zero_add, c1, c2, c3, hch, run_askRoom, Builtin.firstCells, Bool.not_true, Bool.false_eq_true, c5, hTe.runZero, newRow, run_newObj]
    rw [Array.empty_append]; rfl

theorem zeroCells_repl {de : TD} {P : Program} {et : TypeId} (hTe : TyOk P et de) (n : Nat) : (Builtin.zeroCells de.zv.cells n).toList = repl de.zero n := by
  unfold Builtin.zeroCells
  rw [range_repl rfl, hTe.cells]

section
variable {P : Program} {id base : Nat} {μ : Mu} {h : Hp} {w : World} (hr : HW μ base h w) (hb : base ≤ w.heap.size)
include hr hb
theorem appendZ_sim {st xt : TypeId} {ts : Array TypeId} {et : TypeId} {de : TD} {kx : IntKind} (hTe : TyOk P et de) (h0 : ts[0]? = some st) (hst : P.underlying st = some (.slice et)) {type : TypeId}
    (h1 : ts[1]? = some xt) (hu : P.underlying xt = some (.int kx)) {s s' x x' : Value} (hs : VR μ s s') (hx : VR μ x x') {rs : Rs} (e : appendZ de et h s x = .ok rs) :
    DidV id base μ h w rs ((Builtin.append_ ts type #[s', x']).run P w) := by
  unfold appendZ at e
  split at e
  · rename_i len cap k n
    obtain ⟨hck, e1⟩ := chk_ok e
    clear e
    simp only [Bool.and_eq_true] at hck
    obtain ⟨⟨⟨⟨⟨⟨k1, k2⟩, k3⟩, k4⟩, k5⟩, k6⟩, k7⟩ := hck
    have k1 := Nat.eq_of_beq_eq_true k1
    have k2 := Nat.eq_of_beq_eq_true k2
    have k3 := blt_true k3
    have k4 := Nat.le_of_ble_eq_true k4
    have k6 := blt_true k6
    have k7 := blt_true k7
    subst k1; subst k2
    cases hs; cases hx
    have hbig : bigSize = 100000000 := rfl
    have hn1 : n < bigSize := by
      have : n ≤ n * de.size := Nat.le_mul_of_pos_right _ k4
      omega
    obtain ⟨es, hes⟩ : ∃ es, de.size = es + 1 := ⟨de.size - 1, by omega⟩
    obtain ⟨cap', rest, hle, hrs, hrun⟩ := append_zeros (P := P) (w := w) hTe h0 hst (type := type) h1 hu (n := n) (k := k) k3 k6 hn1 k4
    rw [hrun]
    rw [hes] at e1
    have hzl := zeroCells_repl hTe n
    have hz2 : (Builtin.zeroCells de.zv.cells n).size = n * de.size := by
      rw [← Array.length_toList, hzl, repl_length, hTe.len]
    have hcs : cap' * de.size = (cap' - n) * de.size + n * de.size := by rw [← Nat.add_mul]; congr 1; omega
    obtain ⟨v, h', rfl, hd⟩ := grown_rel (id := id) hr hb (repl_rel μ hTe.plain n) e1 (c := Builtin.zeroCells de.zv.cells n ++ rest) (fr := (0, 0)) (w' := w.drew.alloc (.cells (Builtin.zeroCells de.zv.cells n ++ rest) et)) rfl rfl rfl rfl
      (by intro i hi; rw [repl_length, hTe.len] at hi; rw [Array.getElem?_append_left (by omega), ← Array.getElem?_toList, hzl]) (by rw [repl_length, hTe.len, Array.size_append]; omega) (.inl rfl) (cap' := cap') hle (by rw [← hes, Array.size_append]; omega)
    exact DidV.of hd
  · cases e
end
end Go.Ev
