/-
  The kinds of lines, as the document and as the program tell them.
-/
import Derived.Test.YtoinadgkjnbejaaDoorPgBase
set_option linter.unusedVariables false
set_option linter.unusedSimpArgs false
namespace Go.Ev
noncomputable section
open Go.Pg
section
variable {E : Env} {f : FuncId} {s t : St}
end
end
end Go.Ev
