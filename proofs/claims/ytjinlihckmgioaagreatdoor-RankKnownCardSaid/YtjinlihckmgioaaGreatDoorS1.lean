/-
  By an AI agent: a part of the proof of this claim; what is proved stands in the text YtjinlihckmgioaaGreatDoorMain.
-/
import Derived.Test.YtjinlihckmgioaaGreatDoorS0
import Derived.Test.YtjinlihckmgioaaGreatDoorEvKn
set_option linter.unusedVariables false
set_option linter.unusedSimpArgs false
set_option linter.unusedSectionVars false
set_option maxRecDepth 100000
set_option linter.unusedVariables false
namespace EnvRk
open Go Go.Ev
noncomputable section
theorem d0 : CallD En 17 [] ⟨ofAL iL0, 12, ofAL iF0⟩ (.tuple #[(.agg #[(.int .i64 (.ofNat 4)), (.slice (some ⟨60475, 0, some 1⟩) 4 4), (.slice (some ⟨60476, 0, some 1⟩) 4 4)]), (.agg #[(.int .i64 (.ofNat 4)), (.slice (some ⟨76312, 0, some 1⟩) 4 4), (.slice (some ⟨76313, 0, some 1⟩) 4 4)]), (.agg #[(.int .i64 (.ofNat 4)), (.slice (some ⟨80295, 0, some 1⟩) 4 4), (.slice (some ⟨80296, 0, some 1⟩) 4 4)])]) ⟨ofAL oL0, 80312, ofAL oF0⟩ := leaf_ok tabOk (xFuel := 1000) (n := 200) (ks := []) trivial (ids := [56527, 56996, 57566, 58136, 58706, 58707, 58820, 59123, 59527, 59831, 59832, 59919, 60101, 60284, 60285, 60346, 60452, 60453, 60475, 60476, 73898, 74292, 74687, 75082, 75477, 75478, 75539, 75857, 75858, 75919, 76121, 76122, 76183, 76289, 76290, 76312, 76313, 78767, 79246, 79247, 79308, 79651, 79652, 79739, 79921, 80104, 80105, 80166, 80272, 80273, 80295, 80296]) (fids := [56449, 56996, 57566, 58136, 58706, 56997, 58768, 59123, 59527, 59831, 59124, 59893, 60101, 60284, 60102, 60346, 60452, 60453, 58729, 58730, 73820, 74292, 74687, 75082, 75477, 74293, 75539, 75857, 75858, 75919, 76121, 76122, 76183, 76289, 76290, 75500, 75501, 78767, 79246, 79247, 79308, 79651, 79652, 79713, 79921, 80104, 79922, 80166, 80272, 80273, 79269, 79270]) (by kernel_rfl)
end
end EnvRk
