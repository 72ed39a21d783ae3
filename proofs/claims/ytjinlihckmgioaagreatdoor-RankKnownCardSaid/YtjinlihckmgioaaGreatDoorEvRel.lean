/-
  By an AI agent: a part of the proof of this claim; what is proved stands in the text YtjinlihckmgioaaGreatDoorMain.
-/
import Derived.Test.YtjinlihckmgioaaGreatDoorEvTr
import Derived.Laws.World
import Derived.Laws.Cells
import Derived.Below
import Derived.OrdersIn
set_option linter.unusedVariables false
set_option linter.unusedSimpArgs false
set_option linter.unusedSectionVars false
set_option linter.unusedVariables false
namespace Go.Ev
open Go

/-- Where the blocks of the canonical heap lie in memory; how many cells those have; which family a block is of. -/
structure Mu where
  m : Nat → Option Nat
  S : Nat → Nat
  g : Nat → Nat
  ty : Tr TD

structure Mu.le (μ μ' : Mu) : Prop where
  m : ∀ {b B}, μ.m b = some B → μ'.m b = some B
  S : ∀ {b B}, μ.m b = some B → μ'.S B = μ.S B
  g : ∀ {b B}, μ.m b = some B → μ'.g b = μ.g b
  ty : μ'.ty = μ.ty

theorem Mu.le.refl (μ : Mu) : μ.le μ := ⟨fun h => h, fun _ => rfl, fun _ => rfl, rfl⟩
theorem Mu.le.trans {a b c : Mu} (h : a.le b) (k : b.le c) : a.le c :=
  ⟨fun e => k.m (h.m e), fun e => (k.S (h.m e)).trans (h.S e), fun e => (k.g (h.m e)).trans (h.g e), k.ty.trans h.ty⟩

mutual
inductive VR (μ : Mu) : Value → Value → Prop
  | psn (v : Value) : VR μ (.chan none) v
  | bool (b : Bool) : VR μ (.bool b) (.bool b)
  | int (k : IntKind) (n : Int) : VR μ (.int k n) (.int k n)
  | float (k : FloatKind) (n : Nat) : VR μ (.float k n) (.float k n)
  | string (s : ByteArray) : VR μ (.string s) (.string s)
  | ptr0 : VR μ (.pointer none) (.pointer none)
  | ptr {b B : Nat} (o : Nat) (h : μ.m b = some B) : VR μ (.pointer (some ⟨b, o, none⟩)) (.pointer (some ⟨B, o, none⟩))
  | sl0 (n c : Nat) : VR μ (.slice none n c) (.slice none n c)
  | sl {b B : Nat} (o n c : Nat) (h : μ.m b = some B) : VR μ (.slice (some ⟨b, o, none⟩) n c) (.slice (some ⟨B, o, none⟩) n c)
  | slg {b B : Nat} (o e n : Nat) {c c' : Nat} (h : μ.m b = some B) (hc : c ≤ c') (hs : o + c' * (e + 1) ≤ μ.S B) :
      VR μ (.slice (some ⟨b, o, some (e + 1)⟩) n c) (.slice (some ⟨B, o, none⟩) n c')
  | sle {b o : Nat} (a' : Addr) (c' : Nat) (hsp : a'.spot = none) : VR μ (.slice (some ⟨b, o, some 0⟩) 0 0) (.slice (some a') 0 c')
  | map0 : VR μ (.map none) (.map none)
  | map {r R : Nat} (h : μ.m r = some R) : VR μ (.map (some r)) (.map (some R))
  | nilFunc : VR μ .nilFunc .nilFunc
  | nilIface : VR μ .nilIface .nilIface
  | func (f : FuncId) {a a' c c' : Array Value} (ha : VRL μ a.toList a'.toList) (hc : VRL μ c.toList c'.toList) : VR μ (.func (.func f) a c) (.func (.func f) a' c')
  | yield {l L : Nat} (h : μ.m l = some L) : VR μ (.func (.yield l) #[] #[]) (.func (.yield L) #[] #[])
  | agg {a a' : Array Value} (h : VRL μ a.toList a'.toList) : VR μ (.agg a) (.agg a')
  | tuple {a a' : Array Value} (h : VRL μ a.toList a'.toList) : VR μ (.tuple a) (.tuple a')
inductive VRL (μ : Mu) : List Value → List Value → Prop
  | nil : VRL μ [] []
  | cons {a b : Value} {as bs : List Value} (h : VR μ a b) (hs : VRL μ as bs) : VRL μ (a :: as) (b :: bs)
end

mutual
theorem VR.mono {μ μ' : Mu} (hle : μ.le μ') : ∀ {a b : Value}, VR μ a b → VR μ' a b
  | _, _, .psn v => .psn v
  | _, _, .bool b => .bool b
  | _, _, .int k n => .int k n
  | _, _, .float k n => .float k n
  | _, _, .string s => .string s
  | _, _, .ptr0 => .ptr0
  | _, _, .ptr o h => .ptr o (hle.m h)
  | _, _, .sl0 n c => .sl0 n c
  | _, _, .sl o n c h => .sl o n c (hle.m h)
  | _, _, .slg o e n h hc hs => .slg o e n (hle.m h) hc (by rw [hle.S h]; exact hs)
  | _, _, .sle a' c' hsp => .sle a' c' hsp
  | _, _, .map0 => .map0
  | _, _, .map h => .map (hle.m h)
  | _, _, .nilFunc => .nilFunc
  | _, _, .nilIface => .nilIface
  | _, _, .func f ha hc => .func f (VRL.mono hle ha) (VRL.mono hle hc)
  | _, _, .yield h => .yield (hle.m h)
  | _, _, .agg h => .agg (VRL.mono hle h)
  | _, _, .tuple h => .tuple (VRL.mono hle h)
theorem VRL.mono {μ μ' : Mu} (hle : μ.le μ') : ∀ {a b : List Value}, VRL μ a b → VRL μ' a b
  | _, _, .nil => .nil
  | _, _, .cons h hs => .cons (VR.mono hle h) (VRL.mono hle hs)
end

theorem VRL.length {μ : Mu} : ∀ {a b : List Value}, VRL μ a b → a.length = b.length
  | _, _, .nil => rfl
  | _, _, .cons _ hs => by simp [VRL.length hs]

theorem VRL.get {μ : Mu} : ∀ {a b : List Value}, VRL μ a b → ∀ i : Nat, (a[i]? = none ∧ b[i]? = none) ∨ ∃ x y, a[i]? = some x ∧ b[i]? = some y ∧ VR μ x y
  | _, _, .nil, i => by simp
  | _, _, .cons h hs, 0 => by simp [h]
  | _, _, .cons h hs, i + 1 => by simpa using VRL.get hs i

theorem VRL.app {μ : Mu} : ∀ {a b c d : List Value}, VRL μ a b → VRL μ c d → VRL μ (a ++ c) (b ++ d)
  | _, _, _, _, .nil, h => h
  | _, _, _, _, .cons h hs, h2 => .cons h (VRL.app hs h2)

theorem VRL.take {μ : Mu} : ∀ {a b : List Value} (n : Nat), VRL μ a b → VRL μ (a.take n) (b.take n)
  | _, _, 0, _ => by simpa using VRL.nil
  | _, _, n + 1, .nil => by simpa using VRL.nil
  | _, _, n + 1, .cons h hs => by simpa using VRL.cons h (VRL.take n hs)
theorem VRL.drop {μ : Mu} : ∀ {a b : List Value} (n : Nat), VRL μ a b → VRL μ (a.drop n) (b.drop n)
  | _, _, 0, h => by simpa using h
  | _, _, n + 1, .nil => by simpa using VRL.nil
  | _, _, n + 1, .cons h hs => by simpa using VRL.drop n hs

theorem VRL.of_get {μ : Mu} : ∀ {a b : List Value}, a.length = b.length → (∀ (i : Nat) (x y : Value), a[i]? = some x → b[i]? = some y → VR μ x y) → VRL μ a b
  | [], [], _, _ => .nil
  | x :: as, y :: bs, hl, h => .cons (h 0 x y rfl rfl) (VRL.of_get (by simpa using hl) fun i u v hu hv => h (i + 1) u v (by simpa using hu) (by simpa using hv))

theorem VRL.map {μ : Mu} {α : Type} {f g : α → Value} : ∀ (l : List α), (∀ x ∈ l, VR μ (f x) (g x)) → VRL μ (l.map f) (l.map g)
  | [], _ => .nil
  | x :: l, h => .cons (h x (by simp)) (VRL.map l fun y hy => h y (by simp [hy]))

/-- Cells of a block of its own stand in one cell in memory, too. -/
theorem VR.okc {μ : Mu} {a b : Value} (h : VR μ a b) (ha : okc a = true) : b.oneCell' = true := by
  cases h <;> simp_all [Ev.okc, Value.oneCell']

theorem VRL.okc {μ : Mu} : ∀ {a b : List Value}, VRL μ a b → a.all Ev.okc = true → ∀ x ∈ b, x.oneCell' = true
  | _, _, .nil, _, x, hx => by simp at hx
  | _, _, .cons h hs, ha, x, hx => by
    simp only [List.all_cons, Bool.and_eq_true] at ha
    rcases List.mem_cons.1 hx with rfl | hx
    · exact h.okc ha.1
    · exact VRL.okc hs ha.2 x hx

theorem vcells_rel {μ : Mu} {a b : Value} (h : VR μ a b) {cs : List Value} (hc : vcells a = .ok cs) : VRL μ cs b.cells.toList := by
  cases h <;> simp only [vcells, reduceCtorEq, Except.ok.injEq] at hc <;> (try subst hc) <;> first
    | (simp only [Value.cells]; exact .cons (by constructor <;> assumption) .nil)
    | (simp only [Value.cells]; assumption)

/-! The heaps -/
def CellsR (μ : Mu) (k : Blk) (B : Nat) (c : Array Value) (fr : Nat × Nat) : Prop :=
  c.size = μ.S B ∧ k.size ≤ c.size ∧ k.size ≤ bigSize ∧ (fr = (0, 0) ∨ c.size ≤ fr.1) ∧
    ∀ i v, i < k.size → k.cells.get i = some v → ∃ v', c[i]? = some v' ∧ VR μ v v'

theorem not_frozen {n : Nat} {fr : Nat × Nat} (h : fr = (0, 0) ∨ n ≤ fr.1) : ∀ i, i < n → ¬ (fr.1 ≤ i ∧ i < fr.2) := by
  intro i hi
  rcases h with rfl | h
  · simp
  · omega

def MapR (μ : Mu) : List (Value × Value) → List MapEntry → Prop
  | [], [] => True
  | (k, v) :: r, e :: r' => VR μ k e.key ∧ VR μ v e.val ∧ MapR μ r r'
  | _, _ => False

def TmR (μ : Mu) (tm : Tr Value) (nt : Nat) (tmps : Array Value) : Prop :=
  tmps.size = nt ∧ nt ≤ maxCnt ∧ ∀ t, VR μ (evo tm (.tmp t)) (tmps.getD t undef)

def LoopR (μ : Mu) (r : Lp) (L : Loop) : Prop :=
  TmR μ r.tm r.nt L.tmps ∧ L.params.toList = r.params ∧ r.assign = toCd μ.ty L.assign ∧ r.body = toCd μ.ty L.body ∧ L.state = r.state ∧ L.pending = r.pending.map Jm.code

def ObR (μ : Mu) (B : Nat) : Ob → Obj → Prop
  | .cells k, .cells c e fr => e = k.elem ∧ CellsR μ k B c fr
  | .map es, .map es' _ => MapR μ es es'.toList
  | .iter s p, .stringIter s' p' => s = s' ∧ p = p'
  | .loop r, .loop L => LoopR μ r L
  | _, _ => False

def famOf : Ob → Nat
  | .cells k => k.fam
  | _ => 0

structure HR (μ : Mu) (base : Nat) (h : Hp) (w : World) : Prop where
  ob : ∀ {b ob B}, h.obs.get b = some ob → μ.m b = some B → ∃ o, w.heap[B]? = some o ∧ ObR μ B ob o
  grp : ∀ {b ob B}, h.obs.get b = some ob → μ.m b = some B → famOf ob = μ.g b
  inj : ∀ {b1 b2 B}, μ.m b1 = some B → μ.m b2 = some B → b1 = b2 ∨ (μ.g b1 = μ.g b2 ∧ μ.g b1 ≠ 0)
  fam : ∀ {b k f}, h.obs.get b = some (.cells k) → k.fam = f + 1 → f < h.cnt ∧ ∃ st, h.fams.get f = some st ∧ (b, k.size) ∈ st
  cnt : h.cnt ≤ maxCnt
  old : ∀ {b ob}, h.obs.get b = some ob → b < h.cnt
  oldm : ∀ {b B}, μ.m b = some B → b < h.cnt ∧ base ≤ B ∧ B < w.heap.size

theorem TmR.mono {μ μ' : Mu} (hle : μ.le μ') {tm : Tr Value} {nt : Nat} {tmps : Array Value} (h : TmR μ tm nt tmps) : TmR μ' tm nt tmps :=
  ⟨h.1, h.2.1, fun t => (h.2.2 t).mono hle⟩
theorem MapR.mono {μ μ' : Mu} (hle : μ.le μ') : ∀ {a : List (Value × Value)} {b : List MapEntry}, MapR μ a b → MapR μ' a b
  | [], [], _ => trivial
  | (k, v) :: r, e :: r', h => ⟨h.1.mono hle, h.2.1.mono hle, MapR.mono hle h.2.2⟩
  | [], _ :: _, h => h.elim
  | _ :: _, [], h => h.elim
theorem ObR.mono {μ μ' : Mu} (hle : μ.le μ') {b B : Nat} (hb : μ.m b = some B) {ob : Ob} {o : Obj} (h : ObR μ B ob o) : ObR μ' B ob o := by
  cases ob <;> cases o <;> simp only [ObR] at h ⊢
  · obtain ⟨h1, h2, h3, h4, h5, h6⟩ := h
    exact ⟨h1, by rw [hle.S hb]; exact h2, h3, h4, h5, fun i v hi hv => let ⟨v', a, b⟩ := h6 i v hi hv; ⟨v', a, b.mono hle⟩⟩
  · exact h.mono hle
  · exact h
  · exact ⟨h.1.mono hle, h.2.1, by rw [hle.ty]; exact h.2.2.1, by rw [hle.ty]; exact h.2.2.2.1, h.2.2.2.2⟩
end Go.Ev
