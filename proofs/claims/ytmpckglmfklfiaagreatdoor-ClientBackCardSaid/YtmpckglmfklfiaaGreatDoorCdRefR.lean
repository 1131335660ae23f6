/-
  Rights as bytes, the document's side.
-/
import Derived.Test.YtmpckglmfklfiaaGreatDoorCdRef
set_option linter.unusedVariables false
set_option linter.unusedSimpArgs false
namespace Go.Ev
noncomputable section
section
variable {E : Env} {f : FuncId} {s : St} {o g fo fg fa : Int} {b : Bool}
end
end
end Go.Ev
