/-
  By an AI agent: a part of the proof of this claim; what is proved stands in the text YtjinlihckmgioaaGreatDoorMain.
-/
import Derived.Test.YtjinlihckmgioaaGreatDoorEvFn
set_option linter.unusedVariables false
set_option linter.unusedSimpArgs false
set_option linter.unusedSectionVars false
set_option linter.unusedVariables false
namespace Go.Ev
open Go
noncomputable section
variable {R : Type}
/-! Words of the compiled texts. -/
def lenO (n : Nat) : Value := .int .i64 (.ofNat n)
def letV (v : Value) (f : Value → E R) : E R := f v
def letH (h : Hp) (f : Hp → E R) : E R := f h
def pickV (q : Bool) (a b : Value) : Value := @Bool.rec (fun _ => Value) b a q
def gdK (w : Bool) (h : Hp) (x : E (Value × Hp)) : E (Value × Hp) := @Bool.rec (fun _ => E (Value × Hp)) (.ok (undef, h)) x w

def ldK (p : Value) (h : Hp) (k : Value → E R) : E R := ptrK p fun a => adK a fun b o => loadS h b o k
def stK (p v : Value) (h : Hp) (k : Hp → E R) : E R := ptrK p fun a => adK a fun b o => storeS h b o v k
def faK (p : Value) (n : Nat) (k : Value → E R) : E R := ptrK p fun a => k (.pointer (some (addA a n)))
def ixK (s j : Value) (n : Nat) (k : Value → E R) : E R := slcK s fun o c => adrK o fun a => adK a fun ab ao => natK j fun i => ifK (Nat.ble (Nat.succ i) c) 121 <| k (.pointer (some ⟨ab, Nat.add ao (Nat.mul i n), none⟩))
def ixLd (s j : Value) (n : Nat) (h : Hp) (k : Value → E R) : E R := slcK s fun o c => adrK o fun a => adK a fun ab ao => natK j fun i => ifK (Nat.ble (Nat.succ i) c) 121 <| loadS h ab (Nat.add ao (Nat.mul i n)) k
def axK (p j : Value) (c n : Nat) (k : Value → E R) : E R := ptrK p fun a => natK j fun i => ifK (Nat.ble (Nat.succ i) c) 119 <| k (.pointer (some (Addr.add a (Nat.mul i n))))
def lenK (s : Value) (k : Value → E R) : E R := slcK s fun _ n => k (.int .i64 (.ofNat n))
def nilK (s : Value) (k : Value → E R) : E R := slcK s fun o _ => k (.bool (isN o))
def nnlK (s : Value) (k : Value → E R) : E R := slcK s fun o _ => k (.bool (notF (isN o)))
def add64K (x y : Value) (k : Value → E R) : E R := i64K x fun a => i64K y fun b => k (.int .i64 (add64 a b))
def sub64K (x y : Value) (k : Value → E R) : E R := i64K x fun a => i64K y fun b => k (.int .i64 (sub64 a b))
def ltK (x y : Value) (k : Value → E R) : E R := i64K x fun a => i64K y fun b => k (.bool (ltW a b))
def gtK (x y : Value) (k : Value → E R) : E R := i64K x fun a => i64K y fun b => k (.bool (ltW b a))
def leK (x y : Value) (k : Value → E R) : E R := i64K x fun a => i64K y fun b => k (.bool (notF (ltW b a)))
def geK (x y : Value) (k : Value → E R) : E R := i64K x fun a => i64K y fun b => k (.bool (notF (ltW a b)))
def eqK (x y : Value) (k : Value → E R) : E R := i64K x fun a => i64K y fun b => k (.bool (eqW a b))
def neK (x y : Value) (k : Value → E R) : E R := i64K x fun a => i64K y fun b => k (.bool (notF (eqW a b)))
def exK (t : Value) (i : Nat) (k : Value → E R) : E R := tupK t fun l => valK (l.toList[i]?) k
def notK (x : Value) (k : Value → E R) : E R := bolK x fun b => k (.bool (notF b))
def pkK (c a b : Value) (k : Value → E R) : E R := bolK c fun q => k (pickV q a b)
def clK (orc : Orc) (g : Nat) (args : List Value) (h : Hp) (k : Value → Hp → E R) : E R := bndF (orc (.enter g args h)) fun q => prK q k
def dyK (En : Env) (orc : Orc) (f : Value) (args : List Value) (h : Hp) (k : Value → Hp → E R) : E R := bndF (callC En f args h) fun rs => bndF (orc rs) fun q => prK q k
def apK (En : Env) (e : TypeId) (h : Hp) (s x : Value) (k : Value → Hp → E R) : E R := bndF (appendC (tdOf En e) e h s x) fun rs => rsK rs k
def cvK (En : Env) (s d : TypeId) (x : Value) (h : Hp) (k : Value → Hp → E R) : E R := bndF (convC En s d x h) fun rs => rsK rs k
def bxK (t : TypeId) (x : Value) (id : Nat) (h : Hp) (k : Value → Hp → E R) : E R := bndF (vcells x) fun cs => bndF (mkBlk cs t) fun ob => k (.pointer (some ⟨id, 0, none⟩)) (newAt h id ob)
def alK (En : Env) (t : TypeId) (id : Nat) (h : Hp) (k : Value → Hp → E R) : E R := bndF (mkBlk (zeroOf En t) t) fun ob => k (.pointer (some ⟨id, 0, none⟩)) (newAt h id ob)
def bsK (vs : List Value) (e : TypeId) (n id : Nat) (h : Hp) (k : Value → Hp → E R) : E R := bndF (mkBlk vs e) fun ob => k (.slice (some ⟨id, 0, none⟩) n n) (newAt h id ob)
def laK (En : Env) (t : TypeId) (p : Value) (h : Hp) (k : Value → E R) : E R := ptrK p fun a => adK a fun b o => bndF (rd h b o (tdOf En t).size) fun cs => k (.agg cs.toArray)
def gvK (w : Bool) (h : Hp) (x : E (Value × Hp)) (k : Value → Hp → E R) : E R := bndF (gdK w h x) fun q => prK q k
theorem range_getL : ∀ (n : Nat) (l : List Value), l.length = n → (List.range n).map (getL l) = l := by
  intro n l h
  apply List.ext_getElem?
  intro i
  rw [List.getElem?_map]
  by_cases hi : i < n
  · rw [List.getElem?_range hi, Option.map_some, getL_eq]
    have : i < l.length := by omega
    rw [List.getElem?_eq_getElem this]; rfl
  · rw [List.getElem?_eq_none (by simp; omega), List.getElem?_eq_none (by omega)]; rfl
def bodyOf (En : Env) (g : Nat) : Cd := match En.fn.get g with | some d => d.body | none => .bad
structure FS1 where
  mk ::
  (a0 : Value)
def FT1 : FrT FS1 := {
  toL := fun f => [f.a0]
  ofL := fun l => ⟨getL l 0⟩
  n := 1
  ok := fun l h => range_getL 1 l h }
structure FS2 where
  mk ::
  (a0 a1 : Value)
def FT2 : FrT FS2 := {
  toL := fun f => [f.a0, f.a1]
  ofL := fun l => ⟨getL l 0, getL l 1⟩
  n := 2
  ok := fun l h => range_getL 2 l h }
structure FS3 where
  mk ::
  (a0 a1 a2 : Value)
def FT3 : FrT FS3 := {
  toL := fun f => [f.a0, f.a1, f.a2]
  ofL := fun l => ⟨getL l 0, getL l 1, getL l 2⟩
  n := 3
  ok := fun l h => range_getL 3 l h }
structure FS4 where
  mk ::
  (a0 a1 a2 a3 : Value)
def FT4 : FrT FS4 := {
  toL := fun f => [f.a0, f.a1, f.a2, f.a3]
  ofL := fun l => ⟨getL l 0, getL l 1, getL l 2, getL l 3⟩
  n := 4
  ok := fun l h => range_getL 4 l h }
structure FS5 where
  mk ::
  (a0 a1 a2 a3 a4 : Value)
def FT5 : FrT FS5 := {
  toL := fun f => [f.a0, f.a1, f.a2, f.a3, f.a4]
  ofL := fun l => ⟨getL l 0, getL l 1, getL l 2, getL l 3, getL l 4⟩
  n := 5
  ok := fun l h => range_getL 5 l h }
structure FS6 where
  mk ::
  (a0 a1 a2 a3 a4 a5 : Value)
def FT6 : FrT FS6 := {
  toL := fun f => [f.a0, f.a1, f.a2, f.a3, f.a4, f.a5]
  ofL := fun l => ⟨getL l 0, getL l 1, getL l 2, getL l 3, getL l 4, getL l 5⟩
  n := 6
  ok := fun l h => range_getL 6 l h }
structure FS7 where
  mk ::
  (a0 a1 a2 a3 a4 a5 a6 : Value)
def FT7 : FrT FS7 := {
  toL := fun f => [f.a0, f.a1, f.a2, f.a3, f.a4, f.a5, f.a6]
  ofL := fun l => ⟨getL l 0, getL l 1, getL l 2, getL l 3, getL l 4, getL l 5, getL l 6⟩
  n := 7
  ok := fun l h => range_getL 7 l h }
structure FS8 where
  mk ::
  (a0 a1 a2 a3 a4 a5 a6 a7 : Value)
def FT8 : FrT FS8 := {
  toL := fun f => [f.a0, f.a1, f.a2, f.a3, f.a4, f.a5, f.a6, f.a7]
  ofL := fun l => ⟨getL l 0, getL l 1, getL l 2, getL l 3, getL l 4, getL l 5, getL l 6, getL l 7⟩
  n := 8
  ok := fun l h => range_getL 8 l h }
structure FS10 where
  mk ::
  (a0 a1 a2 a3 a4 a5 a6 a7 a8 a9 : Value)
def FT10 : FrT FS10 := {
  toL := fun f => [f.a0, f.a1, f.a2, f.a3, f.a4, f.a5, f.a6, f.a7, f.a8, f.a9]
  ofL := fun l => ⟨getL l 0, getL l 1, getL l 2, getL l 3, getL l 4, getL l 5, getL l 6, getL l 7, getL l 8, getL l 9⟩
  n := 10
  ok := fun l h => range_getL 10 l h }
structure FS12 where
  mk ::
  (a0 a1 a2 a3 a4 a5 a6 a7 a8 a9 a10 a11 : Value)
def FT12 : FrT FS12 := {
  toL := fun f => [f.a0, f.a1, f.a2, f.a3, f.a4, f.a5, f.a6, f.a7, f.a8, f.a9, f.a10, f.a11]
  ofL := fun l => ⟨getL l 0, getL l 1, getL l 2, getL l 3, getL l 4, getL l 5, getL l 6, getL l 7, getL l 8, getL l 9, getL l 10, getL l 11⟩
  n := 12
  ok := fun l h => range_getL 12 l h }
structure FS14 where
  mk ::
  (a0 a1 a2 a3 a4 a5 a6 a7 a8 a9 a10 a11 a12 a13 : Value)
def FT14 : FrT FS14 := {
  toL := fun f => [f.a0, f.a1, f.a2, f.a3, f.a4, f.a5, f.a6, f.a7, f.a8, f.a9, f.a10, f.a11, f.a12, f.a13]
  ofL := fun l => ⟨getL l 0, getL l 1, getL l 2, getL l 3, getL l 4, getL l 5, getL l 6, getL l 7, getL l 8, getL l 9, getL l 10, getL l 11, getL l 12, getL l 13⟩
  n := 14
  ok := fun l h => range_getL 14 l h }
structure FS16 where
  mk ::
  (a0 a1 a2 a3 a4 a5 a6 a7 a8 a9 a10 a11 a12 a13 a14 a15 : Value)
def FT16 : FrT FS16 := {
  toL := fun f => [f.a0, f.a1, f.a2, f.a3, f.a4, f.a5, f.a6, f.a7, f.a8, f.a9, f.a10, f.a11, f.a12, f.a13, f.a14, f.a15]
  ofL := fun l => ⟨getL l 0, getL l 1, getL l 2, getL l 3, getL l 4, getL l 5, getL l 6, getL l 7, getL l 8, getL l 9, getL l 10, getL l 11, getL l 12, getL l 13, getL l 14, getL l 15⟩
  n := 16
  ok := fun l h => range_getL 16 l h }
structure FS20 where
  mk ::
  (a0 a1 a2 a3 a4 a5 a6 a7 a8 a9 a10 a11 a12 a13 a14 a15 a16 a17 a18 a19 : Value)
def FT20 : FrT FS20 := {
  toL := fun f => [f.a0, f.a1, f.a2, f.a3, f.a4, f.a5, f.a6, f.a7, f.a8, f.a9, f.a10, f.a11, f.a12, f.a13, f.a14, f.a15, f.a16, f.a17, f.a18, f.a19]
  ofL := fun l => ⟨getL l 0, getL l 1, getL l 2, getL l 3, getL l 4, getL l 5, getL l 6, getL l 7, getL l 8, getL l 9, getL l 10, getL l 11, getL l 12, getL l 13, getL l 14, getL l 15, getL l 16, getL l 17, getL l 18, getL l 19⟩
  n := 20
  ok := fun l h => range_getL 20 l h }
structure FS24 where
  mk ::
  (a0 a1 a2 a3 a4 a5 a6 a7 a8 a9 a10 a11 a12 a13 a14 a15 a16 a17 a18 a19 a20 a21 a22 a23 : Value)
def FT24 : FrT FS24 := {
  toL := fun f => [f.a0, f.a1, f.a2, f.a3, f.a4, f.a5, f.a6, f.a7, f.a8, f.a9, f.a10, f.a11, f.a12, f.a13, f.a14, f.a15, f.a16, f.a17, f.a18, f.a19, f.a20, f.a21, f.a22, f.a23]
  ofL := fun l => ⟨getL l 0, getL l 1, getL l 2, getL l 3, getL l 4, getL l 5, getL l 6, getL l 7, getL l 8, getL l 9, getL l 10, getL l 11, getL l 12, getL l 13, getL l 14, getL l 15, getL l 16, getL l 17, getL l 18, getL l 19, getL l 20, getL l 21, getL l 22, getL l 23⟩
  n := 24
  ok := fun l h => range_getL 24 l h }
structure FS28 where
  mk ::
  (a0 a1 a2 a3 a4 a5 a6 a7 a8 a9 a10 a11 a12 a13 a14 a15 a16 a17 a18 a19 a20 a21 a22 a23 a24 a25 a26 a27 : Value)
def FT28 : FrT FS28 := {
  toL := fun f => [f.a0, f.a1, f.a2, f.a3, f.a4, f.a5, f.a6, f.a7, f.a8, f.a9, f.a10, f.a11, f.a12, f.a13, f.a14, f.a15, f.a16, f.a17, f.a18, f.a19, f.a20, f.a21, f.a22, f.a23, f.a24, f.a25, f.a26, f.a27]
  ofL := fun l => ⟨getL l 0, getL l 1, getL l 2, getL l 3, getL l 4, getL l 5, getL l 6, getL l 7, getL l 8, getL l 9, getL l 10, getL l 11, getL l 12, getL l 13, getL l 14, getL l 15, getL l 16, getL l 17, getL l 18, getL l 19, getL l 20, getL l 21, getL l 22, getL l 23, getL l 24, getL l 25, getL l 26, getL l 27⟩
  n := 28
  ok := fun l h => range_getL 28 l h }
structure FS32 where
  mk ::
  (a0 a1 a2 a3 a4 a5 a6 a7 a8 a9 a10 a11 a12 a13 a14 a15 a16 a17 a18 a19 a20 a21 a22 a23 a24 a25 a26 a27 a28 a29 a30 a31 : Value)
def FT32 : FrT FS32 := {
  toL := fun f => [f.a0, f.a1, f.a2, f.a3, f.a4, f.a5, f.a6, f.a7, f.a8, f.a9, f.a10, f.a11, f.a12, f.a13, f.a14, f.a15, f.a16, f.a17, f.a18, f.a19, f.a20, f.a21, f.a22, f.a23, f.a24, f.a25, f.a26, f.a27, f.a28, f.a29, f.a30, f.a31]
  ofL := fun l => ⟨getL l 0, getL l 1, getL l 2, getL l 3, getL l 4, getL l 5, getL l 6, getL l 7, getL l 8, getL l 9, getL l 10, getL l 11, getL l 12, getL l 13, getL l 14, getL l 15, getL l 16, getL l 17, getL l 18, getL l 19, getL l 20, getL l 21, getL l 22, getL l 23, getL l 24, getL l 25, getL l 26, getL l 27, getL l 28, getL l 29, getL l 30, getL l 31⟩
  n := 32
  ok := fun l h => range_getL 32 l h }
structure FS40 where
  mk ::
  (a0 a1 a2 a3 a4 a5 a6 a7 a8 a9 a10 a11 a12 a13 a14 a15 a16 a17 a18 a19 a20 a21 a22 a23 a24 a25 a26 a27 a28 a29 a30 a31 a32 a33 a34 a35 a36 a37 a38 a39 : Value)
def FT40 : FrT FS40 := {
  toL := fun f => [f.a0, f.a1, f.a2, f.a3, f.a4, f.a5, f.a6, f.a7, f.a8, f.a9, f.a10, f.a11, f.a12, f.a13, f.a14, f.a15, f.a16, f.a17, f.a18, f.a19, f.a20, f.a21, f.a22, f.a23, f.a24, f.a25, f.a26, f.a27, f.a28, f.a29, f.a30, f.a31, f.a32, f.a33, f.a34, f.a35, f.a36, f.a37, f.a38, f.a39]
  ofL := fun l => ⟨getL l 0, getL l 1, getL l 2, getL l 3, getL l 4, getL l 5, getL l 6, getL l 7, getL l 8, getL l 9, getL l 10, getL l 11, getL l 12, getL l 13, getL l 14, getL l 15, getL l 16, getL l 17, getL l 18, getL l 19, getL l 20, getL l 21, getL l 22, getL l 23, getL l 24, getL l 25, getL l 26, getL l 27, getL l 28, getL l 29, getL l 30, getL l 31, getL l 32, getL l 33, getL l 34, getL l 35, getL l 36, getL l 37, getL l 38, getL l 39⟩
  n := 40
  ok := fun l h => range_getL 40 l h }
structure FS48 where
  mk ::
  (a0 a1 a2 a3 a4 a5 a6 a7 a8 a9 a10 a11 a12 a13 a14 a15 a16 a17 a18 a19 a20 a21 a22 a23 a24 a25 a26 a27 a28 a29 a30 a31 a32 a33 a34 a35 a36 a37 a38 a39 a40 a41 a42 a43 a44 a45 a46 a47 : Value)
def FT48 : FrT FS48 := {
  toL := fun f => [f.a0, f.a1, f.a2, f.a3, f.a4, f.a5, f.a6, f.a7, f.a8, f.a9, f.a10, f.a11, f.a12, f.a13, f.a14, f.a15, f.a16, f.a17, f.a18, f.a19, f.a20, f.a21, f.a22, f.a23, f.a24, f.a25, f.a26, f.a27, f.a28, f.a29, f.a30, f.a31, f.a32, f.a33, f.a34, f.a35, f.a36, f.a37, f.a38, f.a39, f.a40, f.a41, f.a42, f.a43, f.a44, f.a45, f.a46, f.a47]
  ofL := fun l => ⟨getL l 0, getL l 1, getL l 2, getL l 3, getL l 4, getL l 5, getL l 6, getL l 7, getL l 8, getL l 9, getL l 10, getL l 11, getL l 12, getL l 13, getL l 14, getL l 15, getL l 16, getL l 17, getL l 18, getL l 19, getL l 20, getL l 21, getL l 22, getL l 23, getL l 24, getL l 25, getL l 26, getL l 27, getL l 28, getL l 29, getL l 30, getL l 31, getL l 32, getL l 33, getL l 34, getL l 35, getL l 36, getL l 37, getL l 38, getL l 39, getL l 40, getL l 41, getL l 42, getL l 43, getL l 44, getL l 45, getL l 46, getL l 47⟩
  n := 48
  ok := fun l h => range_getL 48 l h }
structure FS64 where
  mk ::
  (a0 a1 a2 a3 a4 a5 a6 a7 a8 a9 a10 a11 a12 a13 a14 a15 a16 a17 a18 a19 a20 a21 a22 a23 a24 a25 a26 a27 a28 a29 a30 a31 a32 a33 a34 a35 a36 a37 a38 a39 a40 a41 a42 a43 a44 a45 a46 a47 a48 a49 a50 a51 a52 a53 a54 a55 a56 a57 a58 a59 a60 a61 a62 a63 : Value)
def FT64 : FrT FS64 := {
  toL := fun f => [f.a0, f.a1, f.a2, f.a3, f.a4, f.a5, f.a6, f.a7, f.a8, f.a9, f.a10, f.a11, f.a12, f.a13, f.a14, f.a15, f.a16, f.a17, f.a18, f.a19, f.a20, f.a21, f.a22, f.a23, f.a24, f.a25, f.a26, f.a27, f.a28, f.a29, f.a30, f.a31, f.a32, f.a33, f.a34, f.a35, f.a36, f.a37, f.a38, f.a39, f.a40, f.a41, f.a42, f.a43, f.a44, f.a45, f.a46, f.a47, f.a48, f.a49, f.a50, f.a51, f.a52, f.a53, f.a54, f.a55, f.a56, f.a57, f.a58, f.a59, f.a60, f.a61, f.a62, f.a63]
  ofL := fun l => ⟨getL l 0, getL l 1, getL l 2, getL l 3, getL l 4, getL l 5, getL l 6, getL l 7, getL l 8, getL l 9, getL l 10, getL l 11, getL l 12, getL l 13, getL l 14, getL l 15, getL l 16, getL l 17, getL l 18, getL l 19, getL l 20, getL l 21, getL l 22, getL l 23, getL l 24, getL l 25, getL l 26, getL l 27, getL l 28, getL l 29, getL l 30, getL l 31, getL l 32, getL l 33, getL l 34, getL l 35, getL l 36, getL l 37, getL l 38, getL l 39, getL l 40, getL l 41, getL l 42, getL l 43, getL l 44, getL l 45, getL l 46, getL l 47, getL l 48, getL l 49, getL l 50, getL l 51, getL l 52, getL l 53, getL l 54, getL l 55, getL l 56, getL l 57, getL l 58, getL l 59, getL l 60, getL l 61, getL l 62, getL l 63⟩
  n := 64
  ok := fun l h => range_getL 64 l h }
def fk1 (fr : FS1) (f : Value → E R) : E R := @FS1.rec (fun _ => E R) f fr
def fv1 (fr : FS1) (f : Value → Value) : Value := @FS1.rec (fun _ => Value) f fr
def fk2 (fr : FS2) (f : Value → Value → E R) : E R := @FS2.rec (fun _ => E R) f fr
def fv2 (fr : FS2) (f : Value → Value → Value) : Value := @FS2.rec (fun _ => Value) f fr
def fk3 (fr : FS3) (f : Value → Value → Value → E R) : E R := @FS3.rec (fun _ => E R) f fr
def fv3 (fr : FS3) (f : Value → Value → Value → Value) : Value := @FS3.rec (fun _ => Value) f fr
def fk4 (fr : FS4) (f : Value → Value → Value → Value → E R) : E R := @FS4.rec (fun _ => E R) f fr
def fv4 (fr : FS4) (f : Value → Value → Value → Value → Value) : Value := @FS4.rec (fun _ => Value) f fr
def fk5 (fr : FS5) (f : Value → Value → Value → Value → Value → E R) : E R := @FS5.rec (fun _ => E R) f fr
def fv5 (fr : FS5) (f : Value → Value → Value → Value → Value → Value) : Value := @FS5.rec (fun _ => Value) f fr
def fk6 (fr : FS6) (f : Value → Value → Value → Value → Value → Value → E R) : E R := @FS6.rec (fun _ => E R) f fr
def fv6 (fr : FS6) (f : Value → Value → Value → Value → Value → Value → Value) : Value := @FS6.rec (fun _ => Value) f fr
def fk7 (fr : FS7) (f : Value → Value → Value → Value → Value → Value → Value → E R) : E R := @FS7.rec (fun _ => E R) f fr
def fv7 (fr : FS7) (f : Value → Value → Value → Value → Value → Value → Value → Value) : Value := @FS7.rec (fun _ => Value) f fr
def fk8 (fr : FS8) (f : Value → Value → Value → Value → Value → Value → Value → Value → E R) : E R := @FS8.rec (fun _ => E R) f fr
def fv8 (fr : FS8) (f : Value → Value → Value → Value → Value → Value → Value → Value → Value) : Value := @FS8.rec (fun _ => Value) f fr
def fk10 (fr : FS10) (f : Value → Value → Value → Value → Value → Value → Value → Value → Value → Value → E R) : E R := @FS10.rec (fun _ => E R) f fr
def fv10 (fr : FS10) (f : Value → Value → Value → Value → Value → Value → Value → Value → Value → Value → Value) : Value := @FS10.rec (fun _ => Value) f fr
def fk12 (fr : FS12) (f : Value → Value → Value → Value → Value → Value → Value → Value → Value → Value → Value → Value → E R) : E R := @FS12.rec (fun _ => E R) f fr
def fv12 (fr : FS12) (f : Value → Value → Value → Value → Value → Value → Value → Value → Value → Value → Value → Value → Value) : Value := @FS12.rec (fun _ => Value) f fr
def fk14 (fr : FS14) (f : Value → Value → Value → Value → Value → Value → Value → Value → Value → Value → Value → Value → Value → Value → E R) : E R := @FS14.rec (fun _ => E R) f fr
def fv14 (fr : FS14) (f : Value → Value → Value → Value → Value → Value → Value → Value → Value → Value → Value → Value → Value → Value → Value) : Value := @FS14.rec (fun _ => Value) f fr
def fk16 (fr : FS16) (f : Value → Value → Value → Value → Value → Value → Value → Value → Value → Value → Value → Value → Value → Value → Value → Value → E R) : E R := @FS16.rec (fun _ => E R) f fr
def fv16 (fr : FS16) (f : Value → Value → Value → Value → Value → Value → Value → Value → Value → Value → Value → Value → Value → Value → Value → Value → Value) : Value := @FS16.rec (fun _ => Value) f fr
def fk20 (fr : FS20) (f : Value → Value → Value → Value → Value → Value → Value → Value → Value → Value → Value → Value → Value → Value → Value → Value → Value → Value → Value → Value → E R) : E R := @FS20.rec (fun _ => E R) f fr
def fv20 (fr : FS20) (f : Value → Value → Value → Value → Value → Value → Value → Value → Value → Value → Value → Value → Value → Value → Value → Value → Value → Value → Value → Value → Value) : Value := @FS20.rec (fun _ => Value) f fr
def fk24 (fr : FS24) (f : Value → Value → Value → Value → Value → Value → Value → Value → Value → Value → Value → Value → Value → Value → Value → Value → Value → Value → Value → Value → Value → Value → Value → Value → E R) : E R := @FS24.rec (fun _ => E R) f fr
def fv24 (fr : FS24) (f : Value → Value → Value → Value → Value → Value → Value → Value → Value → Value → Value → Value → Value → Value → Value → Value → Value → Value → Value → Value → Value → Value → Value → Value → Value) : Value := @FS24.rec (fun _ => Value) f fr
def fk28 (fr : FS28) (f : Value → Value → Value → Value → Value → Value → Value → Value → Value → Value → Value → Value → Value → Value → Value → Value → Value → Value → Value → Value → Value → Value → Value → Value → Value → Value → Value → Value → E R) : E R := @FS28.rec (fun _ => E R) f fr
def fv28 (fr : FS28) (f : Value → Value → Value → Value → Value → Value → Value → Value → Value → Value → Value → Value → Value → Value → Value → Value → Value → Value → Value → Value → Value → Value → Value → Value → Value → Value → Value → Value → Value) : Value := @FS28.rec (fun _ => Value) f fr
def fk32 (fr : FS32) (f : Value → Value → Value → Value → Value → Value → Value → Value → Value → Value → Value → Value → Value → Value → Value → Value → Value → Value → Value → Value → Value → Value → Value → Value → Value → Value → Value → Value → Value → Value → Value → Value → E R) : E R := @FS32.rec (fun _ => E R) f fr
def fv32 (fr : FS32) (f : Value → Value → Value → Value → Value → Value → Value → Value → Value → Value → Value → Value → Value → Value → Value → Value → Value → Value → Value → Value → Value → Value → Value → Value → Value → Value → Value → Value → Value → Value → Value → Value → Value) : Value := @FS32.rec (fun _ => Value) f fr
def fk40 (fr : FS40) (f : Value → Value → Value → Value → Value → Value → Value → Value → Value → Value → Value → Value → Value → Value → Value → Value → Value → Value → Value → Value → Value → Value → Value → Value → Value → Value → Value → Value → Value → Value → Value → Value → Value → Value → Value → Value → Value → Value → Value → Value → E R) : E R := @FS40.rec (fun _ => E R) f fr
def fv40 (fr : FS40) (f : Value → Value → Value → Value → Value → Value → Value → Value → Value → Value → Value → Value → Value → Value → Value → Value → Value → Value → Value → Value → Value → Value → Value → Value → Value → Value → Value → Value → Value → Value → Value → Value → Value → Value → Value → Value → Value → Value → Value → Value → Value) : Value := @FS40.rec (fun _ => Value) f fr
def fk48 (fr : FS48) (f : Value → Value → Value → Value → Value → Value → Value → Value → Value → Value → Value → Value → Value → Value → Value → Value → Value → Value → Value → Value → Value → Value → Value → Value → Value → Value → Value → Value → Value → Value → Value → Value → Value → Value → Value → Value → Value → Value → Value → Value → Value → Value → Value → Value → Value → Value → Value → Value → E R) : E R := @FS48.rec (fun _ => E R) f fr
def fv48 (fr : FS48) (f : Value → Value → Value → Value → Value → Value → Value → Value → Value → Value → Value → Value → Value → Value → Value → Value → Value → Value → Value → Value → Value → Value → Value → Value → Value → Value → Value → Value → Value → Value → Value → Value → Value → Value → Value → Value → Value → Value → Value → Value → Value → Value → Value → Value → Value → Value → Value → Value → Value) : Value := @FS48.rec (fun _ => Value) f fr
def fk64 (fr : FS64) (f : Value → Value → Value → Value → Value → Value → Value → Value → Value → Value → Value → Value → Value → Value → Value → Value → Value → Value → Value → Value → Value → Value → Value → Value → Value → Value → Value → Value → Value → Value → Value → Value → Value → Value → Value → Value → Value → Value → Value → Value → Value → Value → Value → Value → Value → Value → Value → Value → Value → Value → Value → Value → Value → Value → Value → Value → Value → Value → Value → Value → Value → Value → Value → Value → E R) : E R := @FS64.rec (fun _ => E R) f fr
def fv64 (fr : FS64) (f : Value → Value → Value → Value → Value → Value → Value → Value → Value → Value → Value → Value → Value → Value → Value → Value → Value → Value → Value → Value → Value → Value → Value → Value → Value → Value → Value → Value → Value → Value → Value → Value → Value → Value → Value → Value → Value → Value → Value → Value → Value → Value → Value → Value → Value → Value → Value → Value → Value → Value → Value → Value → Value → Value → Value → Value → Value → Value → Value → Value → Value → Value → Value → Value → Value) : Value := @FS64.rec (fun _ => Value) f fr
end
end Go.Ev
