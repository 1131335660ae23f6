/-
  Numbers in bytes: octet.Put.
-/
import Derived.Test.YtmpckglmfklfiaaGreatDoorCdCode
set_option linter.unusedVariables false
set_option linter.unusedSimpArgs false
namespace Go.Ev
noncomputable section
section
variable {E : Env} {f : FuncId} {s : St}
theorem isWidth_run (hf : Has E f Code.octet_isWidth) (n : Int) : Cv E f [.int .i64 n] s fun v s' => v = .bool (decide (n = 1 ∨ n = 2 ∨ n = 4)) ∧ s' = s := by
  refine Cv_of hf.code ?_
  have h0 : (Tr.ofList (.e : Fr) 0 [.int .i64 n]).get 0 = some (.int .i64 n) := rfl
  generalize (Tr.ofList (.e : Fr) 0 [.int .i64 n]) = fr0 at h0
  unfold Code.octet_isWidth
  refine W_seq (W_region (by simp only [sims, Int.reduceEq, Nat.reduceEqDiff, h0]; rfl) ?_)
  cases e1 : decide (n = 1) <;> cases e2 : decide (n = 2) <;> cases e3 : decide (n = 4) <;>
    exact W_seq (W_region (by simp only [sims, Int.reduceEq, Nat.reduceEqDiff, h0, e1, e2, e3]; rfl) (W_ret ⟨rfl, [_], rfl, by simp only [sims, Int.reduceEq, Nat.reduceEqDiff]; simp only [decide_eq_true_eq, decide_eq_false_iff_not] at e1 e2 e3; simp [e1, e2, e3, tupled], rfl⟩))
def putOk (n : Nat) (v : Int) : Prop := (n = 1 ∨ n = 2 ∨ n = 4) ∧ 0 ≤ v ∧ v < 2 ^ (8 * n)
instance (n : Nat) (v : Int) : Decidable (putOk n v) := by unfold putOk; infer_instance
end
end
end Go.Ev
