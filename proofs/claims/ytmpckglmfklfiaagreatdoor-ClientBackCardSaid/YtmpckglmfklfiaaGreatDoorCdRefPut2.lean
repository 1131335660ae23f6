/-
  Numbers of any size, as the document's writer puts them.
-/
import Derived.Test.YtmpckglmfklfiaaGreatDoorCdRefPut
set_option linter.unusedVariables false
set_option linter.unusedSimpArgs false
namespace Go.Ev
noncomputable section
section
variable {E : Env} {f : FuncId} {s t : St} {L a : Nat} {b : List UInt8} {q : Bool} {v : Value}
end
end
end Go.Ev
