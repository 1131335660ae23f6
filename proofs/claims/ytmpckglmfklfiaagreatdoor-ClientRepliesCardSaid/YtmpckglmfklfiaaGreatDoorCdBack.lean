/-
  What is read of bytes is what they were made of, and the bytes of what was read are the bytes: calls and replies, without any program.
-/
import Derived.Test.YtmpckglmfklfiaaGreatDoorCdPutReply
set_option linter.unusedVariables false
set_option linter.unusedSimpArgs false
namespace Go.Ev
noncomputable section
section
variable {l m r : List UInt8} {x : Nat × Int} {n v : Nat}
theorem numberOk_iff {z : Int} : numberOk z = true ↔ -2147483648 ≤ z ∧ z < 2147483648 := by simp [numberOk]
end
end
end Go.Ev
