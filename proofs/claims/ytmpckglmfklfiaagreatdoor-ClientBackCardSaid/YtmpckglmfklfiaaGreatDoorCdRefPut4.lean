/-
  The bytes of a reply, the document's side: the whole.
-/
import Derived.Test.YtmpckglmfklfiaaGreatDoorCdRefPut3
set_option linter.unusedVariables false
set_option linter.unusedSimpArgs false
namespace Go.Ev
noncomputable section
section
variable {E : Env} {f : FuncId} {s t : St} {b : List UInt8} {q : Bool} {v w u : Value} {l : List UInt8} {its : List ItemC}
end
end
end Go.Ev
