/-
  By an AI agent: a part of the proof of this claim; what is proved stands in the text YtjinlihckmgioaaGreatDoorMain.
-/
import Derived.Test.YtjinlihckmgioaaGreatDoorEvDef
set_option linter.unusedVariables false
set_option linter.unusedSimpArgs false
set_option linter.unusedSectionVars false
set_option linter.unusedVariables false
namespace Go.Ev
open Go
noncomputable section

/-- The zero of a type is what its cells say. -/
def zOk (d : TypeDesc) : Value → Bool
  | .agg _ => isAg d
  | .tuple _ => false
  | .bool _ | .int _ _ | .float _ _ | .string _ | .pointer _ | .slice _ _ _ | .map _ | .nilFunc | .nilIface => !isAg d
  | _ => false

def eqsOf (P : Program) (t : Nat) : TypeDesc → Bool
  | .struct _ => !P.eqGuardType P.depth t && !P.stoodInHeld t
  | _ => false

def mkTD (P : Program) (t : Nat) : Option TD :=
  match P.underlying t, P.info? t with
  | some d, some i => match i.zero with
    | some z => match zOk d z && Nat.beq z.cells.toList.length i.size && z.cells.toList.all plain1 with
      | true => some { desc := d, size := i.size, bytes := i.bytes, zero := z.cells.toList, eqs := eqsOf P t d }
      | false => none
    | none => none
  | _, _ => none

def mkFn (P : Program) (ty : Tr TD) (f : Nat) : Option Fd :=
  match P.funcs[f]? with
  | some fn => match fn.body with
    | some _ => match fn.name == "runtime.NumGoroutine" with
      | false => some (mkFd ty fn)
      | true => none
    | none => none
  | none => none

def Tr.putsO {α : Type} (t : Tr α) (n : Nat) : List (Option α) → Tr α
  | [] => t
  | x :: xs => (Tr.set dep t n x).putsO (n + 1) xs
def Tr.ofOpts {α : Type} (xs : List (Option α)) : Tr α := Tr.leaf.putsO 0 xs

end
end Go.Ev
