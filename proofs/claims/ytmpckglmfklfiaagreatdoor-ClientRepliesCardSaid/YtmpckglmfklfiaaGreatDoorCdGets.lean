/-
  Is a call too long; are two calls the same; which call bytes are, on both sides.
-/
import Derived.Test.YtmpckglmfklfiaaGreatDoorCdRef2
set_option linter.unusedVariables false
set_option linter.unusedSimpArgs false
namespace Go.Ev
noncomputable section
def CallC.long (c : CallC) (l : List UInt8) : Bool := decide ((60 : Int) < (c.do_.length : Nat)) || (decide ((60 : Int) < (c.name.length : Nat)) || (decide ((60 : Int) < (c.to.length : Nat)) || decide ((500 : Int) < (l.length : Nat))))
section
variable {E : Env} {f : FuncId} {s : St} {v w u : Value} {l : List UInt8}
end
end
end Go.Ev
