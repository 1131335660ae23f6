/-
  ServerNils, run: true, whatever it is asked.
-/
import Derived.Test.YtdjpdanpfojghaaGreatDoorChecked
import Derived.Test.YtdjpdanpfojghaaGreatDoorEvPart2



import Derived.Test.YtdjpdanpfojghaaGreatDoorEvPart3
set_option linter.unusedVariables false
namespace Go.Proofs.YtdjpdanpfojghaaGreatDoor
open Go Go.Ev
noncomputable section
def primsA : List (FuncId × Prim) := []
def prims0 : List (FuncId × Prim) := [(240, pSum), (336, pCompare), (418, pIndexByteString), (359, pInsert (tag 26 1) 24), (60, pSortedKeys [331] (tag 3 1)), (102, pMapsClone), (357, pMapsClone)]
theorem first_run : saysTrue (callF (envOf Tryz.prog prims0) (runC (envOf Tryz.prog prims0) 20000) 16 [] (bare 6)) = true := by kernel_rfl
def prims : List (FuncId × Prim) := [(16, pTrue)]
/-- An order, told by its parts; its bytes are whatever they are. -/
def ask (do_ name to : ByteArray) (d f r fm mn ow gr fo fg fa : Int) (b0 b1 b2 b3 b4 : Bool) (x : Value) : Value :=
  .agg ⟨[.string do_, .int .i64 d, .int .i64 f, .string name, .string to, .int .i64 r, .int .i64 fm, .int .i64 mn, .bool b0, .bool b1, .bool b2, .bool b3, .int .i64 ow, .int .i64 gr, .int .i64 fo, .int .i64 fg, .int .i64 fa, .bool b4, x]⟩
theorem serverNils_run : ∀ (n : Int) (s do_ name to : ByteArray) (d f r fm mn ow gr fo fg fa : Int) (b0 b1 b2 b3 b4 : Bool) (x : Value),
    saysTrue (callC (envOf Tryz.prog prims) (runC (envOf Tryz.prog prims) 20000) 3 [.int .i64 n, .string s, ask do_ name to d f r fm mn ow gr fo fg fa b0 b1 b2 b3 b4 x] (bare 7)) = true :=
  fun n s do_ name to d f r fm mn ow gr fo fg fa b0 b1 b2 b3 b4 x => by kernel_rfl
end
end Go.Proofs.YtdjpdanpfojghaaGreatDoor
