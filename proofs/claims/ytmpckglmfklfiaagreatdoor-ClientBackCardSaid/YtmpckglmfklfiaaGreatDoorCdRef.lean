/-
  The document's reader: what it takes is what the client's reader takes.
-/
import Derived.Test.YtmpckglmfklfiaaGreatDoorCdBack
set_option linter.unusedVariables false
set_option linter.unusedSimpArgs false
namespace Go.Ev
noncomputable section
section
variable {E : Env} {f : FuncId} {s t : St} {hi a : Nat} {v : Value} {l : List UInt8} {x : Nat × Int}
end
end
end Go.Ev
