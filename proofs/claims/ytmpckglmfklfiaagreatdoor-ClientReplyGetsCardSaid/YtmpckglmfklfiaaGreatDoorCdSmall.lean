/-
  The client's small writers: counted texts, numbers, long data, modes; is a number one.
-/
import Derived.Test.YtmpckglmfklfiaaGreatDoorCdLawR
set_option linter.unusedVariables false
set_option linter.unusedSimpArgs false
namespace Go.Ev
noncomputable section
section
variable {E : Env} {f : FuncId} {s : St}
def countB (l : List UInt8) : List UInt8 := UInt8.ofNat l.length :: l
def numberOk (n : Int) : Bool := decide (-2147483648 ≤ n ∧ n < 2147483648)
end
end
end Go.Ev
