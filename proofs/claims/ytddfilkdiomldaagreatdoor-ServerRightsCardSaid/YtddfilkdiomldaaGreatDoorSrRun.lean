/-
  The example of the layer, run: true.
-/
import Derived.Test.YtddfilkdiomldaaGreatDoorChecked
import Derived.Test.YtddfilkdiomldaaGreatDoorEvPart2



import Derived.Test.YtddfilkdiomldaaGreatDoorEvPart3
set_option linter.unusedVariables false
namespace Go.Proofs.YtddfilkdiomldaaGreatDoor
open Go Go.Ev
noncomputable section
def prims0 : List (FuncId × Prim) := [(186, pSum), (321, pCompare), (343, pIndexByteString), (266, pInsert (tag 24 1) 24), (71, pSortedKeys [123] (tag 3 1)), (74, pMapsClone), (295, pMapsClone)]
theorem first_run : saysTrue (callF (envOf Tryz.prog prims0) (runC (envOf Tryz.prog prims0) 20000) 8 [] (bare 4)) = true := by kernel_rfl
def prims : List (FuncId × Prim) := [(8, pTrue)]
end
end Go.Proofs.YtddfilkdiomldaaGreatDoor
