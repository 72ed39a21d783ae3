/-
  By an AI agent: a part of the proof of this claim; what is proved stands in the text YtjinlihckmgioaaGreatDoorMain.
-/
import Derived.Test.YtjinlihckmgioaaGreatDoorS0
import Derived.Test.YtjinlihckmgioaaGreatDoorEvKn
set_option linter.unusedVariables false
set_option linter.unusedSimpArgs false
set_option linter.unusedSectionVars false
set_option maxRecDepth 100000
set_option linter.unusedVariables false
namespace EnvRk
open Go Go.Ev
noncomputable section
theorem top : runTopK En (ofAL tabL) [k0, k1, k2, k3] 1000 200 4 = true := by kernel_rfl
end
end EnvRk
