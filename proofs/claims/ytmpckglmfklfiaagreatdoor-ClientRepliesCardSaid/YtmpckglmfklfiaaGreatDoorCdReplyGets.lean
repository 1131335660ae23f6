/-
  Are two replies the same; which reply bytes are, on both sides.
-/
import Derived.Test.YtmpckglmfklfiaaGreatDoorCdRef3
set_option linter.unusedVariables false
set_option linter.unusedSimpArgs false
namespace Go.Ev
noncomputable section
section
variable {E : Env} {f : FuncId} {s : St} {v w u w' u' : Value} {l : List UInt8} {its : List ItemC}
end
end
end Go.Ev
