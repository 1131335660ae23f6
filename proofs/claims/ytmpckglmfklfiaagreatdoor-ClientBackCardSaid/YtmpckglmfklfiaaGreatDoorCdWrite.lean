/-
  The document's writer: numbers, texts, modes, behind each other.
-/
import Derived.Test.YtmpckglmfklfiaaGreatDoorCdRefR
import Derived.Test.YtmpckglmfklfiaaGreatDoorCdBack
set_option linter.unusedVariables false
set_option linter.unusedSimpArgs false
namespace Go.Ev
noncomputable section
def Bl (L a : Nat) (s t : St) : Prop := s.next ≤ t.next ∧ ∀ c, c < L → c ≠ a → t.get c = s.get c
structure Wt (s : St) (L a : Nat) (b : List UInt8) (q : Bool) (v : Value) : Prop where
  row : Row s a [v, .bool q]
  gr : Gr s L 1 v (b.map ofByte)
  lt : a < L
  le : L ≤ s.next
section
variable {E : Env} {f : FuncId} {s t : St} {L a : Nat} {b : List UInt8} {q : Bool} {v : Value}
end
end
end Go.Ev
