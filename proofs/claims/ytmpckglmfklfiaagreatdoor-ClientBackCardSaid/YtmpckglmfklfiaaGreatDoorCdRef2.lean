/-
  Rights and a call out of bytes, the document's side.
-/
import Derived.Test.YtmpckglmfklfiaaGreatDoorCdRefR
set_option linter.unusedVariables false
set_option linter.unusedSimpArgs false
namespace Go.Ev
noncomputable section
section
variable {E : Env} {s0 s : St} {tr tb to_ hi a c d : Nat} {v : Value} {l : List UInt8} {zs cs : List Value} {fr : Fr} {x y : Nat × Int} {Q : Ex → Fr → St → Prop}
end
section
variable {E : Env} {f : FuncId} {s t : St} {hi a : Nat} {v : Value} {l : List UInt8} {x : Nat × Int}
end
end
end Go.Ev
