/-
  By an AI agent: a part of the proof of this claim; what is proved stands in the text YtjinlihckmgioaaGreatDoorMain.
-/
import Derived.Test.YtjinlihckmgioaaGreatDoorEvOp5
import Derived.Laws.Append
set_option linter.unusedVariables false
set_option linter.unusedSimpArgs false
set_option linter.unusedSectionVars false
set_option linter.unusedVariables false
set_option linter.unusedSimpArgs false
set_option linter.unusedSectionVars false
namespace Go.Ev
open Go

theorem add_zero_spot {a : Addr} : a.add 0 = a := by simp [Addr.add]

theorem spot_add {a : Addr} (h : a.spot = none) (n : Nat) : (a.add n).spot = none := by unfold Addr.add; split <;> simp [h]

theorem foldl_push : ∀ (ns : List Int) (r : ByteArray), ns.foldl (fun (r : ByteArray) (n : Int) => r.push (UInt8.ofNat n.toNat)) r = ⟨r.data ++ (ns.map fun n => UInt8.ofNat n.toNat).toArray⟩
  | [], r => by simp
  | n :: ns, r => by
    simp only [List.foldl_cons]
    rw [foldl_push ns]
    congr 1
    apply Array.ext'
    show (r.data.push _ ++ _).toList = _
    simp

theorem bytesOf_ok {μ : Mu} : ∀ {cs cs' : List Value} {bs : List UInt8}, VRL μ cs cs' → bytesOf cs = .ok bs → ∃ ns : List Int, cs' = ns.map (Value.int .u8) ∧ bs = ns.map fun n => UInt8.ofNat n.toNat
  | _, _, _, .nil, e => by simp only [bytesOf, Except.ok.injEq] at e; exact ⟨[], rfl, e.symm⟩
  | _, _, _, .cons h hs, e => by
    unfold bytesOf at e
    split at e
    · rename_i heq; cases heq
    · rename_i n r heq
      simp only [List.cons.injEq] at heq
      obtain ⟨rfl, rfl⟩ := heq
      obtain ⟨l, hl, e⟩ := bnd_ok e
      simp only [Except.ok.injEq] at e; subst e
      cases h
      obtain ⟨ns, h1, h2⟩ := bytesOf_ok hs hl
      exact ⟨n :: ns, by rw [h1]; rfl, by rw [h2]; rfl⟩
    · cases e

section
variable {P : Program} {En : Env} (hE : EnvOk P En) {id base : Nat} {μ : Mu} {h : Hp} {w : World} (hr : HW μ base h w)
  (hb : base ≤ w.heap.size) (hid : id < h.cnt) (hm : μ.m id = none) {tm : Tr Value} {ρ : Operand → Value}
include hE hr hb hid hm

theorem sim_slice {o : Oper} {t : TypeId} {x : Operand} {lo hi mx : Option Operand} (ho : o.op = .slice t x lo hi mx) (hx : VR μ (evo tm x) (ρ x))
    (h1 : OptR μ (lo.map (evo tm)) (lo.map ρ)) (h2 : OptR μ (hi.map (evo tm)) (hi.map ρ)) (h3 : OptR μ (mx.map (evo tm)) (mx.map ρ)) {rs : Rs} (e : c_slice En id tm h t x lo hi mx = .ok rs) :
    Sim P id base μ h w rs ((execOp ρ o).run P w) := by
  unfold c_slice at e
  simp only at e
  generalize lo.map (evo tm) = l1 at h1 e
  generalize hi.map (evo tm) = l2 at h2 e
  generalize mx.map (evo tm) = l3 at h3 e
  obtain ⟨d, hd, e⟩ := bnd_ok e
  have hT := hE.ty (opt_ok hd)
  generalize evo tm x = vx at hx e
  generalize hra : ρ x = rx at hx
  have hexec : (execOp ρ o) = (do pure (Next.value (← Instr.sliceAt t rx (lo.map ρ) (hi.map ρ) (mx.map ρ)))) := by simp only [execOp, ho, hra]
  split at e
  · rename_i s hdd
    cases hx
    split at e
    · cases e
    · obtain ⟨⟨l, hh, m⟩, hs, e⟩ := bnd_ok e
      simp only [Except.ok.injEq] at e; subst e
      obtain ⟨m', hrun, k1, k2, k3, k4, k5⟩ := slBounds_rel (P := P) (w := w) (s := false) (cap' := s.size) h1 h2 .none (Nat.le_refl _) hs
      cases h3' : mx.map ρ with
      | some v => rw [h3'] at h3; cases h3
      | none =>
        have : (execOp ρ o).run P w = .ok (.value (.string (s.extract l hh))) w := by
          rw [hexec, h3']
          simp only [Sem.run_bind, Instr.sliceAt, hT.runUnder, hdd, Result.andThen_ok, Instr.slice, Option.isSome_none, Bool.false_eq_true, if_false, hrun, Sem.run_pure]
        rw [this]; exact Did.same hr (.string _)
  · rename_i et len cap hdd
    have e0 := e
    obtain ⟨_, _, e⟩ := bnd_ok e
    obtain ⟨⟨l, hh, m⟩, hs, e⟩ := bnd_ok e
    simp only [Except.ok.injEq] at e; subst e
    cases hx
    obtain ⟨m', hrun, k1, k2, k3, k4, k5⟩ := slBounds_rel (P := P) (w := w) (s := true) (cap' := cap) h1 h2 h3 (Nat.le_refl _) hs
    have hmm : m' = m := by cases l3 with
      | none => have := k4 rfl; omega
      | some v => exact k5 (by simp)
    subst hmm
    obtain ⟨de, hde⟩ : ∃ n, (sizeOf et).run P w = .ok n w := by
      obtain ⟨q, hq, _⟩ := bnd_ok e0
      exact ⟨_, (hE.ty (opt_ok hq)).runSize w⟩
    have : (execOp ρ o).run P w = .ok (.value (.slice none (hh - l) (m' - l))) w := by
      rw [hexec]
      simp only [Sem.run_bind, Instr.sliceAt, hT.runUnder, hdd, Result.andThen_ok, Instr.slice, hrun, hde, Sem.run_pure, Option.map_none, ite_self]
    rw [this]
    exact Did.same hr (.sl0 _ _)
  · rename_i et a len cap hdd
    obtain ⟨de, hde, e1⟩ := bnd_ok e
    clear e
    have hTe := hE.ty (opt_ok hde)
    obtain ⟨⟨l, hh, m⟩, hs, e⟩ := bnd_ok e1
    clear e1
    rcases hx.sl_inv with ⟨b, B, off, rfl, hbB, rfl⟩ | ⟨b, B, off, es, c', rfl, hbB, hc, hsz, rfl⟩ | ⟨b, off, a', c', rfl, rfl, rfl, hsp, rfl⟩
    · obtain ⟨m', hrun, k1, k2, k3, k4, k5⟩ := slBounds_rel (P := P) (w := w) (s := true) (cap' := cap) h1 h2 h3 (Nat.le_refl _) hs
      have hmm : m' = m := by cases l3 with
        | none => have := k4 rfl; omega
        | some v => exact k5 (by simp)
      subst hmm
      simp only [Except.ok.injEq] at e; subst e
      have : (execOp ρ o).run P w = .ok (.value (.slice (some (if m' = l then ⟨B, off, none⟩ else ⟨B, off + l * de.size, none⟩)) (hh - l) (m' - l))) w := by
        rw [hexec]
        simp only [Sem.run_bind, Instr.sliceAt, hT.runUnder, hdd, Result.andThen_ok, Instr.slice, hrun, hTe.runSize, Sem.run_pure]
        congr 3; split <;> simp [add_eq]
      rw [this]
      refine Did.same hr ?_
      split
      · exact .sl _ _ _ hbB
      · rw [add_eq]; exact .sl _ _ _ hbB
    · obtain ⟨m', hrun, k1, k2, k3, k4, k5⟩ := slBounds_rel (P := P) (w := w) (s := true) (cap' := c') h1 h2 h3 hc hs
      have : (execOp ρ o).run P w = .ok (.value (.slice (some (if m' = l then ⟨B, off, none⟩ else ⟨B, off + l * de.size, none⟩)) (hh - l) (m' - l))) w := by
        rw [hexec]
        simp only [Sem.run_bind, Instr.sliceAt, hT.runUnder, hdd, Result.andThen_ok, Instr.slice, hrun, hTe.runSize, Sem.run_pure]
        congr 3; split <;> simp [add_eq]
      rw [this]
      cases l3 with
      | none =>
        obtain ⟨rfl, rfl⟩ := k4 rfl
        simp only at e
        obtain ⟨hes, e⟩ := chk_ok e
        have hes := Nat.eq_of_beq_eq_true hes
        split at e
        · rename_i hcond
          simp only [Bool.and_eq_true] at hcond
          have q1 := Nat.eq_of_beq_eq_true hcond.1
          simp only [Except.ok.injEq] at e; subst e
          have hz : hh - l = 0 := by omega
          rw [hz]
          refine Did.same hr (.sle _ _ ?_)
          split <;> rfl
        · rename_i hcond
          simp only [Except.ok.injEq] at e; subst e
          have hcond : ¬ (m = l ∧ 0 < l) := by
            rintro ⟨q1, q2⟩
            rw [beq_iff, blt_iff] at hcond
            simp [q1, q2] at hcond
          refine Did.same hr ?_
          have ea : (if m' = l then (⟨B, off, none⟩ : Addr) else ⟨B, off + l * de.size, none⟩) = ⟨B, off + l * (es + 1), none⟩ := by
            by_cases hl0 : l = 0
            · subst hl0; split <;> simp
            · rw [if_neg (by omega), hes]
          rw [ea]
          refine .slg _ _ _ hbB (by omega) ?_
          have : off + l * (es + 1) + (m' - l) * (es + 1) = off + m' * (es + 1) := by
            rw [Nat.add_assoc, ← Nat.add_mul]; congr 2; omega
          omega
      | some v =>
        have hmm := k5 (by simp)
        subst hmm
        simp only at e
        obtain ⟨hes, e⟩ := chk_ok e
        simp only [Bool.and_eq_true] at hes
        have hes := Nat.eq_of_beq_eq_true hes.1
        simp only [Except.ok.injEq] at e; subst e
        refine Did.same hr ?_
        rw [hes]
        split
        · exact .sl _ _ _ hbB
        · exact .sl _ _ _ hbB
    · obtain ⟨m', hrun, k1, k2, k3, k4, k5⟩ := slBounds_rel (P := P) (w := w) (s := true) (cap' := c') h1 h2 h3 (Nat.zero_le _) hs
      cases l3 with
      | none =>
        obtain ⟨rfl, rfl⟩ := k4 rfl
        simp only [Except.ok.injEq] at e; subst e
        have hl0 : l = 0 := by omega
        have hh0 : hh = 0 := by omega
        subst hl0; subst hh0
        have : (execOp ρ o).run P w = .ok (.value (.slice (some a') 0 m')) w := by
          rw [hexec]
          simp only [Sem.run_bind, Instr.sliceAt, hT.runUnder, hdd, Result.andThen_ok, Instr.slice, hrun, hTe.runSize, Sem.run_pure]
          congr 3; split <;> simp [add_zero_spot]
        rw [this]
        exact Did.same hr (.sle _ _ hsp)
      | some v =>
        simp only at e
        obtain ⟨hes, e⟩ := chk_ok e
        simp only [Bool.and_eq_true] at hes
        have := blt_true hes.2
        omega
  · rename_i n et a hdd
    obtain ⟨de, hde, e⟩ := bnd_ok e
    have hTe := hE.ty (opt_ok hde)
    obtain ⟨⟨l, hh, m⟩, hs, e⟩ := bnd_ok e
    simp only [Except.ok.injEq] at e; subst e
    obtain ⟨b, B, off, rfl, hbB, rfl⟩ := hx.ptr_inv
    obtain ⟨m', hrun, k1, k2, k3, k4, k5⟩ := slBounds_rel (P := P) (w := w) (s := false) (cap' := n) h1 h2 h3 (Nat.le_refl _) hs
    have hmm : m' = m := by cases l3 with
      | none => have := k4 rfl; omega
      | some v => exact k5 (by simp)
    subst hmm
    have : (execOp ρ o).run P w = .ok (.value (.slice (some (if m' = l then ⟨B, off, none⟩ else ⟨B, off + l * de.size, none⟩)) (hh - l) (m' - l))) w := by
      rw [hexec]
      simp only [Sem.run_bind, Instr.sliceAt, hT.runUnder, hdd, Result.andThen_ok, Instr.sureAddr, Sem.run_pure, hrun, hTe.runSize]
      congr 3; split <;> simp [add_eq]
    rw [this]
    refine Did.same hr ?_
    split
    · exact .sl _ _ _ hbB
    · rw [add_eq]; exact .sl _ _ _ hbB
  · cases e

theorem sim_convert {o : Oper} {s t : TypeId} {x : Operand} (ho : o.op = .convert s t x) (hx : VR μ (evo tm x) (ρ x)) {rs : Rs} (e : c_convert En id tm h s t x = .ok rs) : Sim P id base μ h w rs ((execOp ρ o).run P w) := by
  unfold c_convert convC at e
  obtain ⟨ds, hds, e1⟩ := bnd_ok e
  clear e
  have hS := hE.ty (opt_ok hds)
  obtain ⟨dd, hdd, e⟩ := bnd_ok e1
  clear e1
  have hD := hE.ty (opt_ok hdd)
  generalize evo tm x = vx at hx e
  generalize hra : ρ x = rx at hx
  have hexec : (execOp ρ o) = (do pure (Next.value (← convert s t rx))) := by simp only [execOp, ho, hra]
  split at e
  · rename_i k q n hd2
    simp only [Except.ok.injEq] at e; subst e
    cases hx
    have : (execOp ρ o).run P w = .ok (.value (.int k (k.wrap n))) w := by
      rw [hexec]
      simp only [Sem.run_bind, convert, hS.runUnder, hD.runUnder, Result.andThen_ok, hd2]
      simp [Conv.intToInt]
    rw [this, wrapF_eq]; exact Did.same hr (.int _ _)
  · rename_i str hd2
    simp only [Except.ok.injEq] at e; subst e
    cases hx
    have : (execOp ρ o).run P w = .ok (.value (.string str)) w := by
      rw [hexec]
      simp only [Sem.run_bind, convert, hS.runUnder, hD.runUnder, Result.andThen_ok, hd2]
      simp
    rw [this]; exact Did.same hr (.string _)
  · rename_i et n c hd1 hd2
    obtain ⟨de, hde, e1⟩ := bnd_ok e
    clear e
    have hTe := hE.ty (opt_ok hde)
    split at e1
    · rename_i hu8
      simp only [Except.ok.injEq] at e1; subst e1
      cases hx
      have : (execOp ρ o).run P w = .ok (.value (.string .empty)) w := by
        rw [hexec]
        simp only [Sem.run_bind, convert, hS.runUnder, hD.runUnder, hTe.runUnder, Result.andThen_ok, hd1, hd2, hu8, Conv.bytesToString, Sem.run_pure]
      rw [this]; exact Did.same hr (.string _)
    · cases e1
  · rename_i et a len c hd1 hd2
    obtain ⟨de, hde, e1⟩ := bnd_ok e
    clear e
    have hTe := hE.ty (opt_ok hde)
    split at e1
    · rename_i hu8
      obtain ⟨cs, hcs, e2⟩ := bnd_ok e1
      clear e1
      obtain ⟨bs, hbs, e1⟩ := bnd_ok e2
      clear e2
      simp only [Except.ok.injEq] at e1; subst e1
      have key : ∃ (a' : Addr) (c' : Nat) (cs' : List Value), rx = .slice (some a') len c' ∧ (loadCells a' len).run P w = .ok cs'.toArray w ∧ VRL μ cs cs' := by
        unfold rd at hcs
        obtain ⟨k, hk, hcs1⟩ := bnd_ok hcs
        clear hcs
        obtain ⟨hl, hcs2⟩ := chk_ok hcs1
        clear hcs1
        have hl := Nat.le_of_ble_eq_true hl
        simp only [Except.ok.injEq] at hcs2
        subst hcs2
        rcases hx.sl_inv with ⟨b, B, off, rfl, hbB, rfl⟩ | ⟨b, B, off, es, c', rfl, hbB, hc, hsz, rfl⟩ | ⟨b, off, a', c', rfl, rfl, rfl, hsp, rfl⟩
        · obtain ⟨ob, hob, hR⟩ := hr.ob (getBlk_ok hk) hbB
          cases ob with
          | cells cc el fr =>
            simp only [ObR] at hR
            refine ⟨_, _, (cc.extract off (off + len)).toList, rfl, ?_, rdc_rel hR.2 len off hl⟩
            rw [run_loadCells' P hob (by have := hR.2.2.1; have hl : off + len ≤ k.size := hl; omega)]
          | _ => simp [ObR] at hR
        · obtain ⟨ob, hob, hR⟩ := hr.ob (getBlk_ok hk) hbB
          cases ob with
          | cells cc el fr =>
            simp only [ObR] at hR
            refine ⟨_, _, (cc.extract off (off + len)).toList, rfl, ?_, rdc_rel hR.2 len off hl⟩
            rw [run_loadCells' P hob (by have := hR.2.2.1; have hl : off + len ≤ k.size := hl; omega)]
          | _ => simp [ObR] at hR
        · exact ⟨_, _, [], rfl, by simp [loadCells, loadCellsFrom], .nil⟩
      obtain ⟨a', c', cs', rfl, hrun, hrel⟩ := key
      obtain ⟨ns, rfl, rfl⟩ := bytesOf_ok hrel hbs
      have := run_bytesToString (P := P) w a' len c' ns (by simpa using hrun)
      rw [foldl_push, show (ByteArray.empty).data = #[] from rfl, Array.empty_append] at this
      have : (execOp ρ o).run P w = .ok (.value (.string ⟨(ns.map fun n => UInt8.ofNat n.toNat).toArray⟩)) w := by
        rw [hexec]
        simp only [Sem.run_bind, convert, hS.runUnder, hD.runUnder, hTe.runUnder, Result.andThen_ok, hd1, hd2, hu8, this, Sem.run_pure]
      rw [this]; exact Did.same hr (.string _)
    · cases e1
  · rename_i et str hd2
    obtain ⟨de, hde, e1⟩ := bnd_ok e
    clear e
    have hTe := hE.ty (opt_ok hde)
    split at e1
    · rename_i hu8
      cases hx
      have hcap : (choose (.appendCap str.size 0 et)).run P w = .ok (str.size + w.tape w.drawn (.appendCap str.size 0 et) % (2 ^ 63 - str.size)) w.drew := by
        simp [Question.forced, Question.cut]
      obtain ⟨cap', hcap'⟩ : ∃ cap', cap' = str.size + w.tape w.drawn (.appendCap str.size 0 et) % (2 ^ 63 - str.size) := ⟨_, rfl⟩
      rw [← hcap'] at hcap
      have hle : str.size ≤ cap' := by omega
      obtain ⟨cc, hcc⟩ : ∃ cc : Array Value, cc = str.data.map (fun b => Value.int .u8 b.toNat) ++ Array.replicate (cap' - str.size) (.int .u8 0) := ⟨_, rfl⟩
      have hsz : cc.size = cap' := by rw [hcc]; simp; have : str.data.size = str.size := rfl; omega
      have hnew : (w.drew.alloc (.cells cc et)).heap[w.heap.size]? = some (.cells cc et (0, 0)) := by
        show (w.heap.push (Obj.cells cc et))[w.heap.size]? = _
        rw [Array.getElem?_push]; simp
      have hrun : (execOp ρ o).run P w = .ok (.value (.slice (some ⟨w.heap.size, 0, none⟩) str.size cap')) ((w.drew.alloc (.cells cc et)).freeze ⟨w.heap.size, cc.size, none⟩ 1) := by
        rw [hexec]
        simp only [Sem.run_bind, convert, hS.runUnder, hD.runUnder, hTe.runUnder, Result.andThen_ok, hd2, hu8]
        simp only [Conv.stringToBytes, Sem.run_bind, hcap, Result.andThen_ok, newRow, run_newObj, Sem.run_pure, ← hcc]
        have hsh : (w.drew.alloc (.cells cc et)).shape? w.heap.size = some (et, cc.size) := by unfold World.shape?; rw [hnew]
        simp only [markStringish, Sem.run_bind, run_shape]
        have : ({ heap := w.drew.heap.push (Obj.cells cc et), tape := w.drew.tape, drawn := w.drew.drawn, os := w.drew.os, output := w.drew.output } : World) = w.drew.alloc (.cells cc et) := rfl
        rw [this, show w.drew.heap.size = w.heap.size from rfl, hsh]
        simp only [Result.andThen_ok, run_freeze, Sem.run_pure]
      have hheap : ((w.drew.alloc (.cells cc et)).freeze ⟨w.heap.size, cc.size, none⟩ 1).heap = w.heap.push (.cells cc et (cc.size, cc.size + 1)) := by
        unfold World.freeze
        simp only [Nat.one_ne_zero, if_false]
        apply Array.ext_getElem?
        intro j
        rw [Array.getElem?_modify]
        by_cases hj : w.heap.size = j
        · subst hj
          rw [if_pos rfl, hnew]
          simp
        · rw [if_neg hj]
          show (w.heap.push (Obj.cells cc et))[j]? = _
          rw [Array.getElem?_push, Array.getElem?_push, if_neg (fun e => hj e.symm), if_neg (fun e => hj e.symm)]
      rw [hrun]
      have hos : ∀ (x : World) (a : Addr) (n : Nat), (x.freeze a n).os = x.os ∧ (x.freeze a n).output = x.output ∧ (x.freeze a n).tape = x.tape := by
        intro x a n; unfold World.freeze; split <;> exact ⟨rfl, rfl, rfl⟩
      have hv : VRL μ (str.data.toList.map fun b => Value.int .u8 b.toNat) (str.data.toList.map fun b => Value.int .u8 b.toNat) := VRL.map _ fun b _ => .int _ _
      have hll : (str.data.toList.map fun b => Value.int .u8 b.toNat).length = str.size := by simp
      obtain ⟨v, h', rfl, hd⟩ := grown_rel (id := id) hr hb hv e1 (w' := (w.drew.alloc (.cells cc et)).freeze ⟨w.heap.size, cc.size, none⟩ 1) hheap (hos _ _ _).1 (hos _ _ _).2.1 (hos _ _ _).2.2
        (by intro i hi; rw [hcc, Array.getElem?_append_left (by simpa using hi)]; simp) (by omega) (.inr (Nat.le_refl _)) (cap' := cap') hle (by omega)
      exact hd
    · cases e1
  · rename_i es et a n c hd1 hd2
    obtain ⟨de, hde, e1⟩ := bnd_ok e
    clear e
    have hTe := hE.ty (opt_ok hde)
    split at e1
    · rename_i hu8 hst
      have hst := Nat.eq_of_beq_eq_true hst
      subst hst
      obtain ⟨b, B, off, hab, hbB, c', hrx⟩ : ∃ b B off, a.block = b ∧ μ.m b = some B ∧ ∃ c', rx = .slice (some ⟨B, off, none⟩) n c' := by
        rcases hx.sl_inv with ⟨b, B, off, rfl, hbB, rfl⟩ | ⟨b, B, off, es, c', rfl, hbB, hc, hsz, rfl⟩ | ⟨b, off, a', c', rfl, rfl, rfl, hsp, rfl⟩
        · exact ⟨b, B, off, rfl, hbB, _, rfl⟩
        · exact ⟨b, B, off, rfl, hbB, _, rfl⟩
        · exact absurd e1 (by simp)
      have e2 : ∃ k, getBlk h b = .ok k ∧ rs = .val (.slice (some a) n c) h := by
        split at e1
        · cases e1
        · obtain ⟨k, hk, e2⟩ := bnd_ok e1
          simp only [Except.ok.injEq] at e2
          exact ⟨k, hab ▸ hk, e2.symm⟩
      obtain ⟨k, hk, rfl⟩ := e2
      have hget := getBlk_ok hk
      obtain ⟨ob, hob, hR⟩ := hr.ob hget hbB
      cases ob with
      | cells cc el fr =>
        simp only [ObR] at hR
        obtain ⟨rfl, hcr⟩ := hR
        obtain ⟨fr', hfr', hfrun⟩ : ∃ fr' : Nat × Nat, cc.size ≤ fr'.1 ∧ (w.freeze ⟨B, cc.size, none⟩ 1).heap = w.heap.setIfInBounds B (.cells cc k.elem fr') := by
          have hBlt := (Array.getElem?_eq_some_iff.1 hob).1
          obtain ⟨lo, hi⟩ := fr
          refine ⟨if lo == hi then (cc.size, cc.size + 1) else (min lo cc.size, max hi (cc.size + 1)), ?_, ?_⟩
          · rcases hcr.2.2.2.1 with h0 | h0
            · simp only [Prod.mk.injEq] at h0
              obtain ⟨rfl, rfl⟩ := h0
              simp
            · simp only at h0
              split <;> simp <;> omega
          · unfold World.freeze
            simp only [Nat.one_ne_zero, if_false]
            apply Array.ext_getElem?
            intro j
            rw [Array.getElem?_modify, Array.getElem?_setIfInBounds]
            by_cases hj : B = j
            · subst hj; rw [if_pos rfl, if_pos rfl, if_pos hBlt, hob]; rfl
            · rw [if_neg hj, if_neg hj]
        have hos : (w.freeze ⟨B, cc.size, none⟩ 1).os = w.os ∧ (w.freeze ⟨B, cc.size, none⟩ 1).output = w.output ∧ (w.freeze ⟨B, cc.size, none⟩ 1).tape = w.tape := by
          unfold World.freeze; split <;> exact ⟨rfl, rfl, rfl⟩
        have : (execOp ρ o).run P w = .ok (.value rx) (w.freeze ⟨B, cc.size, none⟩ 1) := by
          rw [hexec, hrx]
          simp only [Sem.run_bind, convert, hS.runUnder, hTe.runUnder, Result.andThen_ok, hd1, hd2, hu8, beq_self_eq_true]
          have hsh : w.shape? B = some (k.elem, cc.size) := by unfold World.shape?; rw [hob]
          have hee : et = es := by
            have h1 := hS.under
            rw [hD.under, hd1, hd2] at h1
            injection h1 with h1
            injection h1
          rw [← hee]
          simp [markStringish, hsh, hTe.runUnder, hu8]
        rw [this]
        have hsame : ∀ ob', ObR μ B ob' (.cells cc k.elem fr) → ObR μ B ob' (.cells cc k.elem fr') := by
          intro ob' h1
          cases ob' with
          | cells k' => exact ⟨h1.1, h1.2.1, h1.2.2.1, h1.2.2.2.1, .inr hfr', h1.2.2.2.2.2⟩
          | _ => exact h1
        refine ⟨μ, _, _, rfl, .inl ⟨rx, rfl, hx⟩, ⟨HR.upd hr.toHR hbB hget (ob := .cells k) hfrun (fun x ob' hx' => ?_) (fun x ob' hne hx' hX => ?_) (hsame _ ⟨rfl, hcr⟩) rfl rfl hr.fam, hr.fo⟩, ?_⟩
        · by_cases ex : x = b
          · left; subst ex; rw [hget] at hx'; cases hx'; exact ⟨rfl, rfl⟩
          · exact .inr ⟨ex, hx'⟩
        · obtain ⟨o', ho', hR'⟩ := hr.ob hx' hX
          rw [hob] at ho'; cases ho'
          exact hsame _ hR'
        · refine ⟨.refl μ, Nat.le_refl _, fun _ _ _ h => h, fun x B h1 h2 => (by rw [h1] at h2; cases h2), (by rw [hfrun]; simp), fun X hX hn => ?_, hos.1, hos.2.1, hos.2.2⟩
          rw [hfrun, Array.getElem?_setIfInBounds, if_neg]
          intro e; subst e
          exact hn b _ hbB hget
      | _ => simp [ObR] at hR
    · cases e1
  · cases e
end
end Go.Ev
