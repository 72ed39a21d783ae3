/-
  By an AI agent: a part of the proof of this claim; what is proved stands in the text YtjinlihckmgioaaGreatDoorMain.
-/
import Derived.Test.YtjinlihckmgioaaGreatDoorEvDen2
import Derived.Test.YtjinlihckmgioaaGreatDoorEvSub
set_option linter.unusedVariables false
set_option linter.unusedSimpArgs false
set_option linter.unusedSectionVars false
set_option linter.unusedVariables false
set_option linter.unusedSimpArgs false
namespace Go.Ev
open Go

/-- An operation, in whatever heap that knows as much. -/
def DidO (En : Env) (N : Nat) (id : Nat) (tm : Tr Value) (h : Hp) (op : Op) (v : Value) (h' : Hp) : Prop :=
  ∀ hp, HSub h hp → ∃ rs hp', cop En id tm hp (oOf op) = .ok rs ∧ runRs En (evN En N) rs = .ok (v, hp') ∧ HSub h' hp'

theorem DidO.val {En : Env} {N id : Nat} {tm : Tr Value} {h h' : Hp} {op : Op} {v : Value} (e : cop En id tm h (oOf op) = .ok (.val v h')) : DidO En N id tm h op v h' := by
  intro hp hs
  obtain ⟨rs', k1, k2⟩ := cop_sub hs _ e
  cases rs' with
  | val v' h2 => obtain ⟨rfl, k3⟩ := k2; exact ⟨_, h2, k1, rfl, k3⟩
  | _ => exact k2.elim
theorem DidO.orc {En : Env} {orc : Orc} {N id : Nat} (hO : OrS orc (runRs En (evN En N))) {tm : Tr Value} {h h' : Hp} {op : Op} {rs : Rs} {v : Value} (e : cop En id tm h (oOf op) = .ok rs) (e2 : orc rs = .ok (v, h')) : DidO En N id tm h op v h' := by
  intro hp hs
  obtain ⟨rs', k1, k2⟩ := cop_sub hs _ e
  obtain ⟨⟨v', h2⟩, k3, k4, k5⟩ := hO _ _ _ k2 e2
  simp only at k4 k5
  subst k4
  exact ⟨rs', h2, k1, k3, k5⟩

theorem sameK_refl (k : IntKind) : sameK k k = true := by cases k <;> rfl

section
variable {R : Type} {En : Env} {orc : Orc} {N : Nat} (hO : OrS orc (runRs En (evN En N))) {id : Nat} {m : AL} {tm : Tr Value} (hm : KnA m tm) {h : Hp} {k : Value → Hp → E R} {r : R}
include hO hm

theorem slowM_ok {op : Op} (e : slowM En orc id op m h k = .ok r) : ∃ v h', DidO En N id tm h op v h' ∧ k v h' = .ok r := by
  unfold slowM at e
  split at e
  · rename_i m' hr
    unfold slowK at e
    simp only [bndF_eq] at e
    obtain ⟨rs, h1, e⟩ := bnd_ok e
    obtain ⟨q, h2, e⟩ := bnd_ok e
    refine ⟨q.1, q.2, .orc hO ?_ h2, e⟩
    rw [← h1]
    exact (cop_ext (tm := tmOf m') (tm' := tm) (fun x hx => resA_evo hm hr x hx)).symm
  · cases e

omit hO hm in
theorem intD_ok {t : TypeId} {kd : IntKind} (e : intD En t = some kd) : ∃ d, En.ty.get t = some d ∧ d.desc = .int kd := by
  unfold intD at e
  split at e
  · rename_i d hd
    split at e
    · rename_i k hk; simp only [Option.some.injEq] at e; exact ⟨d, hd, by rw [hk, e]⟩
    · cases e
  · cases e

omit hO hm in
theorem binK_ok {t : TypeId} {kd : IntKind} {op : BinOp} {a b : Value} {k : Value → E R} (e : binK En t kd op a b k = .ok r) : ∃ v, bin En t op a b = .ok v ∧ k v = .ok r := by
  cases op <;> simp only [binK] at e
  case quo | rem | and | or | xor | shl | shr | andNot =>
    simp only [bndF_eq] at e
    exact bnd_ok e
  all_goals
    obtain ⟨x, h1, e1⟩ := numK_ok e
    obtain ⟨y, h2, e2⟩ := numK_ok e1
    refine ⟨_, ?_, e2⟩
    rw [h1, h2]
    cases kd <;> simp only [bin, sameK_refl, intF, notF_eq, arW, add64_eq, sub64_eq, addW, subW, ltW_eq, eqW_eq]

omit hO hm in
theorem rsK_ok {rs : Rs} {k : Value → Hp → E R} {r : R} (e : rsK rs k = .ok r) : ∃ v h', rs = .val v h' ∧ k v h' = .ok r := by
  cases rs with
  | val v h => exact ⟨v, h, rfl, e⟩
  | _ => cases e
omit hO hm in
theorem tdOf_eq {t : TypeId} {d : TD} (h : En.ty.get t = some d) : tdOf En t = d := by simp only [tdOf, h]
omit hO hm in
theorem zeroOf_eq {t : TypeId} {d : TD} (h : En.ty.get t = some d) : zeroOf En t = d.zero := by simp only [zeroOf, h]
omit hO hm in
theorem slE_ok {t e : TypeId} (h : slE En t = some e) : ∃ d de, En.ty.get t = some d ∧ d.desc = .slice e ∧ En.ty.get e = some de := by
  unfold slE at h
  split at h
  · rename_i d hd
    split at h
    · rename_i e' hdd
      split at h
      · rename_i de hde
        simp only [Option.some.injEq] at h; subst h
        exact ⟨d, de, hd, hdd, hde⟩
      · cases h
    · cases h
  · cases h
omit hO hm in
theorem apE_ok {ts : Array TypeId} {e : TypeId} (h : apE En ts = some e) : ∃ t0 t1 d1, ts[0]? = some t0 ∧ ts[1]? = some t1 ∧ En.ty.get t1 = some d1 ∧ (∀ k, d1.desc ≠ .int k) ∧ slE En t0 = some e := by
  unfold apE at h
  split at h
  · rename_i t0 t1 h0 h1
    split at h
    · rename_i d1 hd1
      split at h
      · cases h
      · rename_i hne
        exact ⟨t0, t1, d1, h0, h1, hd1, fun k hk => hne k hk, h⟩
    · cases h
  · cases h
omit hO hm in
theorem fillC_seq {z : Value} : ∀ (ps : List (Nat × Value)) (done : List Value) (i : Nat), i = done.length → (∀ p ∈ ps, okc p.2 = true) → (∀ (j : Nat) (p : Nat × Value), ps[j]? = some p → p.1 = i + j) →
    fillC (fun i => some (i * 1, 1)) (done ++ List.replicate ps.length z) ps = .ok (done ++ ps.map (·.2))
  | [], done, i, hi, hok, hs => by simp [fillC]
  | (j, v) :: r, done, i, hi, hok, hs => by
    have hj : j = i := by have := hs 0 (j, v) rfl; simpa using this
    subst hj
    have hv : vcells v = .ok [v] := by
      have := hok (j, v) (by simp)
      simp only at this
      cases v <;> first | rfl | cases this
    have hlen : (Nat.beq [v].length 1 && Nat.ble (j * 1 + 1) (done ++ List.replicate ((j, v) :: r).length z).length) = true := by
      rw [Bool.and_eq_true]
      refine ⟨rfl, Nat.ble_eq_true_of_le ?_⟩
      simp; omega
    have hsp : splice (done ++ List.replicate ((j, v) :: r).length z) (j * 1) [v] = (done ++ [v]) ++ List.replicate r.length z := by
      unfold splice
      rw [Nat.mul_one, hi]
      simp [List.replicate_succ, List.drop_append]
    rw [fillC]
    simp only [hv, bnd, hlen, chk, hsp]
    rw [fillC_seq r (done ++ [v]) (j + 1) (by simp; omega) (fun p hp => hok p (by simp [hp])) (fun j' p hp => by have := hs (j' + 1) p (by simpa using hp); omega)]
    simp
omit hO hm in
theorem seqN_ok : ∀ {ps : List (Nat × Operand)} {i : Nat}, seqN i ps = true → ∀ (j : Nat) (p : Nat × Operand), ps[j]? = some p → p.1 = i + j
  | [], i, h, j, p, hp => by simp at hp
  | (q, x) :: r, i, h, j, p, hp => by
    unfold seqN at h
    split at h
    · rename_i hq
      have hq := Nat.eq_of_beq_eq_true hq
      cases j with
      | zero => simp only [List.getElem?_cons_zero, Option.some.injEq] at hp; rw [← hp]; simp only; omega
      | succ j => have := seqN_ok h j p (by simpa using hp); omega
    · cases h
omit hO hm in
theorem repl_one {z : List Value} {zv : Value} (hz : z = [zv]) : ∀ n, repl z n = List.replicate n zv
  | 0 => rfl
  | n + 1 => by rw [repl, repl_one hz n, hz]; rfl

theorem denCall_ok {c : Call} (e : denCall En orc id (.call c) c m h k = .ok r) : ∃ v h', DidO En N id tm h (.call c) v h' ∧ k v h' = .ok r := by
  unfold denCall at e
  split at e
  · rename_i g hc
    split at e
    · rename_i hf
      have e := rdKs_ok hm e
      simp only [bndF_eq] at e
      obtain ⟨q, h2, e⟩ := bnd_ok e
      refine ⟨q.1, q.2, .orc hO ?_ h2, e⟩
      unfold fnD at hf
      have hex : En.ex.get g = none ∧ ∃ d, En.fn.get g = some d := by
        split at hf
        · cases hf
        · rename_i h1
          split at hf
          · rename_i d h2; exact ⟨h1, d, h2⟩
          · cases hf
      obtain ⟨h1, d, h2⟩ := hex
      simp [cop, oOf, c_call, hc, evo, callC, h1, h2, opt, bnd]
    · exact slowM_ok hO hm e
  · rename_i hc
    split at e
    · rename_i x hs hx
      have e := rdK_ok hm e
      obtain ⟨a, n, cp, hv, e⟩ := slcK_ok e
      refine ⟨_, _, .val ?_, e⟩
      unfold slD at hs
      split at hs
      · rename_i t ht
        split at hs
        · rename_i d hd
          split at hs
          · rename_i et hdd
            simp [cop, oOf, c_call, hc, builtinC, ht, hd, opt, bnd, hx, hv, hdd, goInt]
          · cases hs
        · cases hs
      · cases hs
    · exact slowM_ok hO hm e
  · rename_i hc
    split at e
    · rename_i et s x he hx
      have e := rdK_ok hm e
      have e := rdK_ok hm e
      simp only [bndF_eq] at e
      obtain ⟨rs, h1, e⟩ := bnd_ok e
      obtain ⟨v, h', rfl, e⟩ := rsK_ok e
      refine ⟨v, h', .val ?_, e⟩
      obtain ⟨t0, t1, d1, q0, q1, q2, q3, q4⟩ := apE_ok he
      obtain ⟨d, de, p1, p2, p3⟩ := slE_ok q4
      rw [tdOf_eq p3] at h1
      show c_call En id tm h c = _
      unfold c_call
      rw [hc]
      simp only [hx, List.map_cons, List.map_nil, builtinC, q0, opt, bnd, p1, p2, p3, q1, q2]
      rw [← h1]
    · exact slowM_ok hO hm e
  · rename_i t hc
    have e := rdK_ok hm e
    have e := rdKs_ok hm e
    simp only [bndF_eq] at e
    obtain ⟨rs, h1, e⟩ := bnd_ok e
    obtain ⟨q, h2, e⟩ := bnd_ok e
    refine ⟨q.1, q.2, .orc hO ?_ h2, e⟩
    show c_call En id tm h c = _
    unfold c_call
    rw [hc]
    exact h1
  · exact slowM_ok hO hm e

theorem denRun_ok {op : Op} (e : denRun En orc id op m h k = .ok r) : ∃ v h', DidO En N id tm h op v h' ∧ k v h' = .ok r := by
  unfold denRun at e
  split at e
  · have e := rdK_ok hm e
    exact ⟨_, _, .val rfl, e⟩
  · have e := rdK_ok hm e
    exact ⟨_, _, .val rfl, e⟩
  · rename_i c a b
    have e := rdK_ok hm e
    have e := rdK_ok hm e
    have e := rdK_ok hm e
    obtain ⟨q, hq, e⟩ := bolK_ok e
    refine ⟨_, _, .val ?_, e⟩
    show c_pick En id tm h c a b = _
    unfold c_pick
    rw [hq]
    cases q <;> rfl
  · rename_i t a
    split at e
    · rename_i hc
      have e := rdK_ok hm e
      obtain ⟨p, hp, e⟩ := ptrK_ok e
      unfold cellD at hc
      split at hc
      · rename_i d hd
        split at hc
        · cases hc
        · rename_i hag
          obtain ⟨v, h1, e⟩ := loadS_ok hag e
          refine ⟨_, _, .val ?_, e⟩
          show c_load En id tm h t a = _
          simp only [c_load, hd, opt, bnd, hp, h1]
      · cases hc
    · split at e
      · rename_i hag
        have e := rdK_ok hm e
        obtain ⟨p, hp, e⟩ := ptrK_ok e
        simp only [bndF_eq] at e
        obtain ⟨cs, h1, e⟩ := bnd_ok e
        refine ⟨_, _, .val ?_, e⟩
        show c_load En id tm h t a = _
        unfold aggD at hag
        split at hag
        · rename_i d hd
          rw [tdOf_eq hd] at h1
          simp only [c_load, hd, opt, bnd, hp, ldv, hag, h1]
        · cases hag
      · exact slowM_ok hO hm e
  · rename_i t a x
    split at e
    · rename_i hc
      have e := rdK_ok hm e
      have e := rdK_ok hm e
      obtain ⟨p, hp, e⟩ := ptrK_ok e
      obtain ⟨h', h1, e, hok⟩ := storeS_ok e
      refine ⟨_, _, .val ?_, e⟩
      unfold cellD at hc
      split at hc
      · rename_i d hd
        split at hc
        · cases hc
        · have hc := Nat.eq_of_beq_eq_true hc
          show c_store En id tm h t a x = _
          have hv : vcells (evo tm x) = .ok [evo tm x] := by
            generalize evo tm x = v at hok
            cases v <;> first | rfl | cases hok
          simp only [c_store, hd, opt, bnd, hp, hv, List.length_cons, List.length_nil, hc, h1]
          rfl
      · cases hc
    · exact slowM_ok hO hm e
  · rename_i x
    have e := rdK_ok hm e
    simp only [bndF_eq] at e
    obtain ⟨v, h1, e⟩ := bnd_ok e
    refine ⟨_, _, .val ?_, e⟩
    show c_nilCheck En id tm h x = _
    unfold nilV at h1
    unfold c_nilCheck
    split at h1 <;> first
      | (simp only [Except.ok.injEq] at h1; subst h1; rename_i hv; rw [hv])
      | cases h1
  · rename_i op t x y u
    split at e
    · have e := rdK_ok hm e
      have e := rdK_ok hm e
      obtain ⟨v, h1, e⟩ := binK_ok e
      refine ⟨_, _, .val ?_, e⟩
      show c_binOp En id tm h t op x y = _
      simp only [c_binOp, h1, bnd]
    · have nil : ∀ b, nilD En t op y = some b → ∃ d et n c, En.ty.get t = some d ∧ d.eqs = false ∧ d.desc = .slice et ∧ y = .const (.slice none n c) ∧ ((b = true ∧ op = .eql) ∨ (b = false ∧ op = .neq)) := by
        intro b hb
        unfold nilD at hb
        split at hb
        · split at hb
          · rename_i d hd
            split at hb
            · rename_i et h1 h2; simp only [Option.some.injEq] at hb; exact ⟨d, et, _, _, hd, h1, h2, rfl, .inl ⟨hb.symm, rfl⟩⟩
            · rename_i et h1 h2; simp only [Option.some.injEq] at hb; exact ⟨d, et, _, _, hd, h1, h2, rfl, .inr ⟨hb.symm, rfl⟩⟩
            · cases hb
          · cases hb
        · cases hb
      split at e
      · rename_i hb
        obtain ⟨d, et, n, c, hd, hq, hdd, rfl, hop⟩ := nil _ hb
        have e := rdK_ok hm e
        obtain ⟨a, n1, c1, hv, e⟩ := slcK_ok e
        rcases hop with ⟨_, rfl⟩ | ⟨h, _⟩
        · refine ⟨_, _, .val ?_, e⟩
          show c_binOp En id tm h t .eql x _ = _
          have hy : evo tm (.const (.slice none n c)) = .slice none n c := rfl
          simp [c_binOp, bin, hv, hy, hd, opt, bnd, binS, hq, hdd, bin2, isN_eq]
        · cases h
      · rename_i hb
        obtain ⟨d, et, n, c, hd, hq, hdd, rfl, hop⟩ := nil _ hb
        have e := rdK_ok hm e
        obtain ⟨a, n1, c1, hv, e⟩ := slcK_ok e
        rcases hop with ⟨h, _⟩ | ⟨_, rfl⟩
        · cases h
        · refine ⟨_, _, .val ?_, e⟩
          show c_binOp En id tm h t .neq x _ = _
          have hy : evo tm (.const (.slice none n c)) = .slice none n c := rfl
          simp [c_binOp, bin, hv, hy, hd, opt, bnd, binS, hq, hdd, bin2, isN_eq, notF_eq]
      · have e := rdK_ok hm e
        have e := rdK_ok hm e
        simp only [bndF_eq] at e
        obtain ⟨v, h1, e⟩ := bnd_ok e
        refine ⟨_, _, .val ?_, e⟩
        show c_binOp En id tm h t op x y = _
        simp only [c_binOp, h1, bnd]
  · rename_i t x f
    split at e
    · rename_i n hn
      have e := rdK_ok hm e
      obtain ⟨p, hp, e⟩ := ptrK_ok e
      refine ⟨_, _, .val ?_, e⟩
      show c_fieldAddr En id tm h t x f = _
      unfold offD at hn
      split at hn
      · rename_i fd hfd
        split at hn
        · rename_i df hdf
          split at hn
          · rename_i hz
            simp only [Option.some.injEq] at hn
            simp only [c_fieldAddr, hfd, hdf, bnd, opt, hp, hz, chk, addA_eq, hn]
          · cases hn
        · cases hn
      · cases hn
    · exact slowM_ok hO hm e
  · rename_i t x i
    split at e
    · rename_i n hn
      have e := rdK_ok hm e
      have e := rdK_ok hm e
      obtain ⟨a, c, cp, hs, e⟩ := slcK_ok e
      cases a with
      | none => cases e
      | some a =>
        simp only [adrK] at e
        obtain ⟨kk, j, hj, e⟩ := natK_ok e
        obtain ⟨hlt, e⟩ := ifK_ok e
        refine ⟨_, _, .val ?_, e⟩
        show c_indexAddr En id tm h t x i = _
        unfold elemD at hn
        split at hn
        · rename_i d hd
          split at hn
          · rename_i et hdd
            split at hn
            · rename_i de hde
              simp only [Option.some.injEq] at hn
              simp only [c_indexAddr, hd, bnd, opt, hj, asN, hs, hdd, hde, chk, hlt, hn]
              rfl
            · cases hn
          · cases hn
        · cases hn
    · split at e
      · rename_i c n hn
        have e := rdK_ok hm e
        have e := rdK_ok hm e
        obtain ⟨a, hs, e⟩ := ptrK_ok e
        obtain ⟨kk, j, hj, e⟩ := natK_ok e
        obtain ⟨hlt, e⟩ := ifK_ok e
        refine ⟨_, _, .val ?_, e⟩
        show c_indexAddr En id tm h t x i = _
        unfold rowD at hn
        split at hn
        · rename_i d hd
          split at hn
          · rename_i cc et hdd
            split at hn
            · rename_i de hde
              simp only [Option.some.injEq, Prod.mk.injEq] at hn
              simp only [c_indexAddr, hd, bnd, opt, hj, asN, hs, hdd, hde, chk, hn.1, hlt, hn.2]
              rfl
            · cases hn
          · cases hn
        · cases hn
      · exact slowM_ok hO hm e
  · rename_i t i
    have e := rdK_ok hm e
    obtain ⟨l, hl, e⟩ := tupK_ok e
    cases hg : l.toList[i]? with
    | none => rw [hg] at e; cases e
    | some v =>
      rw [hg] at e
      refine ⟨_, _, .val ?_, e⟩
      show c_extract En id tm h t i = _
      have : l[i]? = some v := by rw [← Array.getElem?_toList]; exact hg
      simp only [c_extract, hl, this, opt, bnd]
  · rename_i t x
    have e := rdK_ok hm e
    obtain ⟨b, hb, e⟩ := bolK_ok e
    refine ⟨_, _, .val ?_, e⟩
    show c_unOp En id tm h .not x = _
    simp only [c_unOp, hb, notF_eq]
  · rename_i t x
    have e := rdK_ok hm e
    simp only [bndF_eq] at e
    obtain ⟨cs, h1, e⟩ := bnd_ok e
    obtain ⟨ob, h2, e⟩ := bnd_ok e
    refine ⟨_, _, .val ?_, e⟩
    show c_box En id tm h t x = _
    simp only [c_box, h1, h2, bnd]
  · rename_i t
    split at e
    · rename_i ht
      simp only [bndF_eq] at e
      obtain ⟨ob, h2, e⟩ := bnd_ok e
      refine ⟨_, _, .val ?_, e⟩
      show c_alloc En id tm h t = _
      unfold tyD at ht
      split at ht
      · rename_i d hd
        rw [zeroOf_eq hd] at h2
        simp only [c_alloc, hd, opt, h2, bnd]
      · cases ht
    · cases e
  · rename_i t l c
    split at e
    · rename_i et he
      have e := rdK_ok hm e
      have e := rdK_ok hm e
      unfold mkSl at e
      obtain ⟨k1, l', hl, e⟩ := natK_ok e
      obtain ⟨k2, c', hc, e⟩ := natK_ok e
      obtain ⟨hck, e⟩ := ifK_ok e
      simp only [bndF_eq] at e
      obtain ⟨ob, h2, e⟩ := bnd_ok e
      refine ⟨_, _, .val ?_, e⟩
      show c_makeSlice En id tm h t l c = _
      obtain ⟨d, de, p1, p2, p3⟩ := slE_ok he
      rw [tdOf_eq p3] at hck
      rw [zeroOf_eq p3] at h2
      simp only [c_makeSlice, p1, opt, bnd, p2, p3, hl, hc, asN, hck, chk, h2]
    · cases e
  · rename_i s d x
    have e := rdK_ok hm e
    simp only [bndF_eq] at e
    obtain ⟨rs, h1, e⟩ := bnd_ok e
    obtain ⟨v, h', rfl, e⟩ := rsK_ok e
    exact ⟨_, _, .val h1, e⟩
  · rename_i fn first captured
    split at e
    · have e := rdKs_ok hm e
      have e := rdKs_ok hm e
      exact ⟨_, _, .val rfl, e⟩
    · cases e
  · rename_i t n ps
    split at e
    · rename_i et he
      have e := rdKs_ok hm e
      simp only [bndF_eq] at e
      obtain ⟨ob, h2, e⟩ := bnd_ok e
      refine ⟨_, _, .val ?_, e⟩
      unfold bsE at he
      split at he
      · rename_i e1 he1
        split at he
        · rename_i hck
          simp only [Option.some.injEq] at he; subst he
          obtain ⟨d, de, p1, p2, p3⟩ := slE_ok he1
          rw [tdOf_eq p3, zeroOf_eq p3] at hck
          simp only [Bool.and_eq_true] at hck
          obtain ⟨⟨⟨⟨c1, c2⟩, c3⟩, c4⟩, c5⟩ := hck
          have c1 := Nat.eq_of_beq_eq_true c1
          have c2 := Nat.eq_of_beq_eq_true c2
          have c5 := Nat.eq_of_beq_eq_true c5
          obtain ⟨zv, hz⟩ : ∃ zv, de.zero = [zv] := by
            cases hzz : de.zero with
            | nil => rw [hzz] at c5; cases c5
            | cons a r =>
              cases r with
              | nil => exact ⟨a, rfl⟩
              | cons b r => rw [hzz] at c5; simp at c5
          have hok : ((ps.toList.map (·.2)).map (evo tm)).all okc = true := by
            unfold mkBlk at h2
            exact (chk_ok h2).1
          have hf := fillC_seq (z := zv) (ps.toList.map fun p => (p.1, evo tm p.2)) [] 0 rfl
            (fun p hp => by
              obtain ⟨q, hq, rfl⟩ := List.mem_map.1 hp
              rw [List.all_eq_true] at hok
              exact hok _ (List.mem_map.2 ⟨q.2, List.mem_map.2 ⟨q, hq, rfl⟩, rfl⟩))
            (fun j p hp => by
              rw [List.getElem?_map] at hp
              cases hq : ps.toList[j]? with
              | none => rw [hq] at hp; cases hp
              | some q =>
                rw [hq] at hp
                simp only [Option.map_some, Option.some.injEq] at hp
                rw [← hp]
                exact seqN_ok c3 j q hq)
          have hlen : (ps.toList.map fun p => (p.1, evo tm p.2)).length = n := by simpa using c2
          rw [hlen] at hf
          simp only [List.nil_append, List.map_map, Function.comp_def] at hf
          have h2' : mkBlk (ps.toList.map fun p => evo tm p.2) e1 = .ok ob := by
            rw [← h2]; simp only [List.map_map, Function.comp_def]
          show c_buildSlice En id tm h t n ps = _
          unfold c_buildSlice
          simp only [p1, opt, bnd, p2, p3, c1, repl_one hz]
          have c4' : Nat.ble (n * 1) 10000000 = true := by rw [Nat.mul_one]; exact c4
          simp only [hf, h2', c4', chk]
        · cases he
      · cases he
    · exact slowM_ok hO hm e
  · exact denCall_ok hO hm e
  · exact slowM_ok hO hm e
end
end Go.Ev
