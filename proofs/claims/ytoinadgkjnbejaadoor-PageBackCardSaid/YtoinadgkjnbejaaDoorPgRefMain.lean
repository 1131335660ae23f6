/-
  The document's parser.
-/
import Derived.Test.YtoinadgkjnbejaaDoorPgRefParse
set_option linter.unusedVariables false
set_option linter.unusedSimpArgs false
namespace Go.Ev
noncomputable section
open Go.Pg
section
variable {E : Env} {f : FuncId} {s t u : St}
end
end
end Go.Ev
