/-
  Rights of bytes, the program's side: GetRights.
-/
import Derived.Test.YtmpckglmfklfiaaGreatDoorCdRights
set_option linter.unusedVariables false
set_option linter.unusedSimpArgs false
namespace Go.Ev
noncomputable section
section
variable {E : Env} {f : FuncId} {s : St}
end
end
end Go.Ev
