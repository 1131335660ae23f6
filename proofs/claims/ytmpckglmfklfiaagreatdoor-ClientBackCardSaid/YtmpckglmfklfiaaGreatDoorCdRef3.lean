/-
  A reply out of its bytes, the document's side; are two replies the same.
-/
import Derived.Test.YtmpckglmfklfiaaGreatDoorCdGets
set_option linter.unusedVariables false
set_option linter.unusedSimpArgs false
namespace Go.Ev
noncomputable section
section
variable {E : Env} {f : FuncId} {s t : St} {hi a c d : Nat} {v w u : Value} {l : List UInt8} {x : Nat × Int}
end
end
end Go.Ev
