/-
  The law's own code, run: true, whatever it is asked.
-/
import Derived.Test.YtjhoekkpbfhalaaGreatDoorChecked
import Derived.Test.YtjhoekkpbfhalaaGreatDoorEvRow
set_option linter.unusedVariables false
namespace Go.Proofs.YtjhoekkpbfhalaaGreatDoor
open Go Go.Ev
noncomputable section
def prims : List (FuncId × Prim) := [(117, pSame), (118, pMakeNoZero 5)]
theorem watchNils_run : ∀ (s : ByteArray) (n : Int), saysTrue (callC (envOf Tryz.prog prims) (runC (envOf Tryz.prog prims) 20000) 6 [.string s, .int .i64 n] (bare 8)) = true := fun s n => by kernel_rfl
end
end Go.Proofs.YtjhoekkpbfhalaaGreatDoor
