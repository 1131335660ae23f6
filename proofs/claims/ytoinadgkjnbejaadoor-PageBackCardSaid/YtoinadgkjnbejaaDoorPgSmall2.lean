/-
  Names and numbers, the kinds of lines.
-/
import Derived.Test.YtoinadgkjnbejaaDoorPgSmall
set_option linter.unusedVariables false
set_option linter.unusedSimpArgs false
namespace Go.Ev
noncomputable section
open Go.Pg
section
variable {E : Env} {f : FuncId} {s : St}
end
end
end Go.Ev
