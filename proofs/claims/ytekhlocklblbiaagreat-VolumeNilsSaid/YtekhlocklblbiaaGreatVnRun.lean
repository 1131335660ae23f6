/-
  The law's own code, run: true, whatever it is asked.
-/
import Derived.Test.YtekhlocklblbiaaGreatChecked
import Derived.Test.YtekhlocklblbiaaGreatEvPart2



set_option linter.unusedVariables false
namespace Go.Proofs.YtekhlocklblbiaaGreat
open Go Go.Ev
noncomputable section
def primsA : List (FuncId × Prim) := []
def prims0 : List (FuncId × Prim) := [(184, pSum), (169, pCompare), (240, pIndexByteString), (137, pInsert (tag 26 1) 24), (110, pSortedKeys [152] (tag 3 1))]
theorem first_run : saysTrue (callF (envOf Tryz.prog prims0) (runC (envOf Tryz.prog prims0) 20000) 20 [] (bare 1)) = true := by kernel_rfl
def prims : List (FuncId × Prim) := [(20, pTrue)]
theorem volumeNils_run : ∀ (m n : Int) (s : ByteArray), saysTrue (callC (envOf Tryz.prog prims) (runC (envOf Tryz.prog prims) 20000) 3 [.int .i64 m, .int .i64 n, .string s] (bare 1)) = true := fun m n s => by kernel_rfl
end
end Go.Proofs.YtekhlocklblbiaaGreat
