/-
  By an AI agent: a part of the proof of this claim; what is proved stands in the text YtjinlihckmgioaaGreatDoorMain.
-/
import Derived.Test.YtjinlihckmgioaaGreatDoorS5
import Derived.Test.YtjinlihckmgioaaGreatDoorEvKn
import Derived.Test.YtjinlihckmgioaaGreatDoorS1
import Derived.Test.YtjinlihckmgioaaGreatDoorS2
import Derived.Test.YtjinlihckmgioaaGreatDoorS3
import Derived.Test.YtjinlihckmgioaaGreatDoorS4
set_option linter.unusedVariables false
set_option linter.unusedSimpArgs false
set_option linter.unusedSectionVars false
set_option maxRecDepth 100000
set_option linter.unusedVariables false
namespace EnvRk
open Go Go.Ev
noncomputable section
theorem topOk : KnOk En [k0, k1, k2, k3] := ⟨d0, d1, d2, d3, trivial⟩
end
end EnvRk
