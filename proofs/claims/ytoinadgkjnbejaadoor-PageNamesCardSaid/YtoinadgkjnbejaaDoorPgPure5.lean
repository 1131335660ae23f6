/-
  Pages: a document whose parts are right is read back from its text. No program in this text.
-/
import Derived.Test.YtoinadgkjnbejaaDoorPgPure4
set_option linter.unusedVariables false
set_option linter.unusedSimpArgs false
namespace Go.Pg
def bodyC (p : List Ln) : Prop := bodyP false p = some (p.length, true)
structure Wf (d : Doc) : Prop where
  head : ∃ told ti, headR (d.header ++ [wEndHeader]) none none = some (told, ti, d.header, []) ∧ ti.getD [] = d.title ∧ agrees told d.pages.length = true
  pro : bodyC d.prologue
  pgs : ∀ p ∈ d.pages, bodyC p
  few : d.pages.length ≤ 999
  tr : plainL d.trailer = true
  nl : ∀ x ∈ docLines d, 10 ∉ x
end Go.Pg
