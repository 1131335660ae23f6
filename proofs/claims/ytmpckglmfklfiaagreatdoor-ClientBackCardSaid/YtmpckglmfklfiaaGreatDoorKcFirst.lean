/-
  The example of the layer, run: true.
-/
import Derived.Test.YtmpckglmfklfiaaGreatDoorKcMost
set_option linter.unusedVariables false
namespace Go.Proofs.YtmpckglmfklfiaaGreatDoor
open Go Go.Ev
noncomputable section
theorem last_run : endsTrue 0 (runC (envOf Tryz.prog primsC) 20000 (.seq (.block 0 (.loop awakeL)) awakeT) most_fr most_st) = true := by kernel_rfl
theorem first_run : ∃ n, saysTrue (callF (envOf Tryz.prog primsC) (runC (envOf Tryz.prog primsC) n) 9 [] (bare 4)) = true :=
  says_half (P := Tryz.prog) awake_code awake_prim awake_shape half_run most_run last_run
end
end Go.Proofs.YtmpckglmfklfiaaGreatDoor
