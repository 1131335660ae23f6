/-
  A call out of its bytes, the program's side.
-/
import Derived.Test.YtmpckglmfklfiaaGreatDoorCdRead2
set_option linter.unusedVariables false
set_option linter.unusedSimpArgs false
namespace Go.Ev
noncomputable section
section
variable {E : Env} {f : FuncId} {s t : St} {hi a : Nat} {v : Value} {l : List UInt8} {x : Nat × Int}
end
end
end Go.Ev
