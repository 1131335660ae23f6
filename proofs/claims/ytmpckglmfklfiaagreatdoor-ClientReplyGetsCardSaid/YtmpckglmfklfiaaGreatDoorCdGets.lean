/-
  Is a call too long; are two calls the same; which call bytes are, on both sides.
-/
import Derived.Test.YtmpckglmfklfiaaGreatDoorCdRef2
set_option linter.unusedVariables false
set_option linter.unusedSimpArgs false
namespace Go.Ev
noncomputable section
section
variable {E : Env} {f : FuncId} {s : St} {v w u : Value} {l : List UInt8}
end
end
end Go.Ev
