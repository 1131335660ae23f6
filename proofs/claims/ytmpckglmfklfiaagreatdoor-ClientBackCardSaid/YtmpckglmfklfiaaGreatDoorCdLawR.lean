/-
  The plain law of rights: what was put is got.
-/
import Derived.Test.YtmpckglmfklfiaaGreatDoorCdGetR
set_option linter.unusedVariables false
set_option linter.unusedSimpArgs false
namespace Go.Ev
noncomputable section
end
end Go.Ev
