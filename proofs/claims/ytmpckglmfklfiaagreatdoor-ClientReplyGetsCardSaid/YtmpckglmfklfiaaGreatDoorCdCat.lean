/-
  Bytes, one after the other: slices.Concat.
-/
import Derived.Test.YtmpckglmfklfiaaGreatDoorCdGet
set_option linter.unusedVariables false
set_option linter.unusedSimpArgs false
namespace Go.Ev
noncomputable section
section
variable {E : Env} {f : FuncId} {s : St}
theorem flat1 (n : Nat) (v : Value) : (List.replicate n [v]).flatten = List.replicate n v := by
  induction n with
  | zero => rfl
  | succ n ih => rw [List.replicate_succ, List.replicate_succ, List.flatten_cons, ih]; rfl
end
end
end Go.Ev
