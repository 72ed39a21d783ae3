/-
  By an AI agent: a part of the proof of this claim; what is proved stands in the text YtjinlihckmgioaaGreatDoorMain.
-/
import Derived.Test.YtjinlihckmgioaaGreatDoorEvOp2
set_option linter.unusedVariables false
set_option linter.unusedSimpArgs false
set_option linter.unusedSectionVars false
set_option linter.unusedVariables false
set_option linter.unusedSimpArgs false
set_option linter.unusedSectionVars false
namespace Go.Ev
open Go

theorem repl_length (z : List Value) : ∀ n, (repl z n).length = n * z.length
  | 0 => by simp [repl]
  | n + 1 => by simp [repl, repl_length z n, Nat.succ_mul, Nat.add_comm]

theorem repl_get (z : List Value) : ∀ (n i : Nat), i < n * z.length → (repl z n)[i]? = z[i % z.length]?
  | 0, i, h => by simp at h
  | n + 1, i, h => by
    simp only [repl]
    by_cases hi : i < z.length
    · rw [List.getElem?_append_left hi, Nat.mod_eq_of_lt hi]
    · rw [List.getElem?_append_right (by omega), repl_get z n _ (by rw [Nat.succ_mul] at h; omega)]
      congr 1
      conv => rhs; rw [show i = (i - z.length) + z.length by omega]
      rw [Nat.add_mod_right]

theorem range_repl {z : Array Value} {n m : Nat} (hm : m = n * z.size) : ((Array.range m).map (fun i : Nat => z[i % z.size]!)).toList = repl z.toList n := by
  apply List.ext_getElem?
  intro i
  simp only [Array.toList_map, List.getElem?_map, Array.toList_range]
  by_cases hi : i < m
  · rw [List.getElem?_range hi, repl_get _ _ _ (by simpa [hm] using hi)]
    have hz : 0 < z.size := by rcases Nat.eq_zero_or_pos z.size with h | h; · rw [h] at hm; omega
                               · exact h
    have hlt := Nat.mod_lt i hz
    simp only [Option.map_some, Array.length_toList]
    have hx : z[i % z.size]! = z[i % z.size] := by simp [hlt]
    rw [hx, Array.getElem?_toList, Array.getElem?_eq_getElem hlt]
  · rw [List.getElem?_eq_none (by simpa using Nat.le_of_not_lt hi), List.getElem?_eq_none (by rw [repl_length]; simp only [Array.length_toList]; omega)]; rfl

theorem repl_rel (μ : Mu) {z : List Value} (h : z.all plain1 = true) : ∀ n, VRL μ (repl z n) (repl z n)
  | 0 => .nil
  | n + 1 => (plains_rel μ h).app (repl_rel μ h n)

/-! fill -/
theorem fill_foldl : ∀ (vs : List Value) (cs : Array Value) (off k : Nat), (vs.zipIdx k).foldl (fun (cs : Array Value) (x : Value × Nat) => cs.setIfInBounds (off + x.2) x.1) cs = wrA cs (off + k) vs
  | [], cs, off, k => rfl
  | v :: vs, cs, off, k => by
    simp only [List.zipIdx_cons, List.foldl_cons, wrA]
    rw [fill_foldl vs _ off (k + 1)]
    rfl

theorem splice_rel {μ : Mu} {cs : List Value} {cs' : Array Value} {vs vs' : List Value} {off : Nat} (hc : VRL μ cs cs'.toList) (hv : VRL μ vs vs') (hl : off + vs.length ≤ cs.length) :
    VRL μ (splice cs off vs) (wrA cs' off vs').toList := by
  have hlc := hc.length
  have hlv := hv.length
  have e : (wrA cs' off vs').toList = cs'.toList.take off ++ vs' ++ cs'.toList.drop (off + vs'.length) := by
    apply List.ext_getElem?
    intro i
    rw [Array.getElem?_toList, wrA_get _ _ _ _ (by simp at hlc; omega)]
    simp only [Array.length_toList] at hlc
    by_cases h1 : i < off
    · rw [if_neg (by omega), List.append_assoc, List.getElem?_append_left (by simp; omega), List.getElem?_take_of_lt h1, Array.getElem?_toList]
    · by_cases h2 : i < off + vs'.length
      · rw [if_pos (by omega), List.append_assoc, List.getElem?_append_right (by simp; omega), List.getElem?_append_left (by simp; omega)]
        congr 1; simp; omega
      · rw [if_neg (by omega), List.getElem?_append_right (by simp; omega), List.getElem?_drop, Array.getElem?_toList]
        congr 1; simp; omega
  rw [e]
  unfold splice
  rw [hlv]
  exact ((hc.take off).app hv).app (hc.drop _)

theorem fill_rel {μ : Mu} {place : Nat → Option (Nat × Nat)} : ∀ (ps : List (Nat × Value)) (ps' : List (Nat × Value)) (cs : List Value) (cs' : Array Value) (r : List Value),
    VRL μ cs cs'.toList → ps.map (·.1) = ps'.map (·.1) → VRL μ (ps.map (·.2)) (ps'.map (·.2)) → fillC place cs ps = .ok r →
    ∃ r', Instr.fill place cs' ps' = some r' ∧ VRL μ r r'.toList
  | [], [], cs, cs', r, hc, _, _, e => by
    simp only [fillC, Except.ok.injEq] at e
    subst e
    exact ⟨cs', rfl, hc⟩
  | [], _ :: _, _, _, _, _, he, _, _ => by simp at he
  | _ :: _, [], _, _, _, _, he, _, _ => by simp at he
  | (i, v) :: ps, (i', v') :: ps', cs, cs', r, hc, he, hv, e => by
    simp only [List.map_cons, List.cons.injEq] at he
    obtain ⟨rfl, he⟩ := he
    simp only [List.map_cons] at hv
    cases hv with
    | cons h1 h2 =>
    simp only [fillC] at e
    obtain ⟨vs, hvs, e⟩ := bnd_ok e
    have hvr := vcells_rel h1 hvs
    cases hp : place i with
    | none => rw [hp] at e; cases e
    | some x =>
      obtain ⟨off, size⟩ := x
      rw [hp] at e
      obtain ⟨hchk, e⟩ := chk_ok e
      simp only [Bool.and_eq_true] at hchk
      have hsz := Nat.eq_of_beq_eq_true hchk.1
      have hle := Nat.le_of_ble_eq_true hchk.2
      have hlv := hvr.length
      have hlc := hc.length
      simp only [Array.length_toList] at hlv hlc
      have hsp := splice_rel (off := off) hc hvr (by omega)
      obtain ⟨r', hr', hrel⟩ := fill_rel ps ps' (splice cs off vs) (wrA cs' off v'.cells.toList) r hsp he h2 e
      refine ⟨r', ?_, hrel⟩
      simp only [Instr.fill, hp]
      rw [if_neg (by simp; omega)]
      rw [← hr']
      congr 1
      have := fill_foldl v'.cells.toList cs' off 0
      rw [Nat.add_zero] at this
      rw [← this, ← Array.foldl_toList, Array.toList_zipIdx]
end Go.Ev
