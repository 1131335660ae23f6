/-
  The document's reader: the lines of a part.
-/
import Derived.Test.YtoinadgkjnbejaaDoorPgRead
set_option linter.unusedVariables false
set_option linter.unusedSimpArgs false
namespace Go.Ev
noncomputable section
open Go.Pg
section
variable {E : Env} {f : FuncId} {s t u : St} {hi a d c : Nat} {v : Value} {ls : List Ln} {k : Nat}
theorem Gr.on {lo : Nat} {w : Value} {xs : List Value} (h : Gr s lo 1 w xs) (B : But a s t) (ha : a < lo) : Gr t lo 1 w xs := h.but B ha
end
end
end Go.Ev
