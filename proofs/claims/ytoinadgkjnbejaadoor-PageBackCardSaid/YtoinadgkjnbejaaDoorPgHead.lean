/-
  The document's reader: the header.
-/
import Derived.Test.YtoinadgkjnbejaaDoorPgRead2
set_option linter.unusedVariables false
set_option linter.unusedSimpArgs false
namespace Go.Ev
noncomputable section
open Go.Pg
section
variable {E : Env} {f : FuncId} {s t u : St} {hi a d c : Nat} {v : Value} {ls : List Ln} {k : Nat}
end
end
end Go.Ev
