/-
  The law of a text's document, its title and its pages.
-/
import Derived.Test.YtoinadgkjnbejaaDoorPgTop
set_option linter.unusedVariables false
set_option linter.unusedSimpArgs false
namespace Go.Ev
noncomputable section
open Go.Pg
def awakeText : Ln := [37, 33, 68, 111, 99, 10, 37, 37, 69, 110, 100, 72, 101, 97, 100, 101, 114, 10, 37, 37, 80, 97, 103, 101, 58, 32, 49, 10, 120, 10, 37, 37, 84, 114, 97, 105, 108, 101, 114, 10, 37, 37, 69, 79, 70, 10]
theorem awake_doc : docR awakeText = some ⟨[], [], [], [[[120]]], []⟩ := by decide +kernel
section
variable {E : Env} {f : FuncId} {s t u : St}
theorem long_run (hf : Has E f Code.tithinglaw14_long) (l : Ln) : Cv E f [strOf l] s fun r t => r = .bool (decide (30000 < l.length)) ∧ Low s.next s t := by
  refine Cv_of hf.code ?_
  have h0 : (Tr.ofList (.e : Fr) 0 [strOf l]).get 0 = some (strOf l) := rfl
  generalize (Tr.ofList (.e : Fr) 0 [strOf l]) = fr0 at h0
  unfold Code.tithinglaw14_long
  refine W_seq (W_region (by simp only [simq, Int.reduceEq, Nat.reduceEqDiff]; rfl) ?_)
  have d1 : decide ((30000 : Int) < ((l.length : Nat) : Int)) = decide (30000 < l.length) := by rw [decide_eq_decide]; omega
  refine W_seq (W_region (by simp only [simq, Int.reduceEq, Nat.reduceEqDiff, h0, lenL_eq, Int.ofNat_eq_natCast, d1]; rfl) (W_ret ⟨rfl, _, res_tmp res_nil, ?_, Low.self s⟩))
  simp only [simq, Int.reduceEq, Nat.reduceEqDiff, tupled]
set_option maxHeartbeats 4000000 in
theorem Awake_run (hC : Codes E) (P : Prims E) (hf : Has E f Code.tithinglaw14_Awake) (G : Gl s) : Cv E f [] s fun r t => r = .bool true ∧ Low s.next s t := by
  refine Cv_of hf.code ?_
  generalize (Tr.ofList (.e : Fr) 0 []) = fr0
  unfold Code.tithinglaw14_Awake
  refine W_seq (W_region (by simp only [simq, Int.reduceEq, Nat.reduceEqDiff]; rfl) ?_)
  refine W_seq (W_opsM (Wo_call hC.page_Count.prim (args := [strOf awakeText]) (by simp only [simq, Int.reduceEq, Nat.reduceEqDiff]; try rfl) ((PCount_run hC P hC.page_Count (G.skip 0) (by decide)).mono ?_)))
  rintro _ s2 ⟨rfl, l2⟩
  obtain ⟨z1, z2⟩ := doc_some awake_doc
  rw [z1, z2]
  refine Wo_all (by simp only [simq, Int.reduceEq, Nat.reduceEqDiff, nth0, nth1]; rfl) ?_
  show W E _ _ _ _
  have d1 : decide ((((1 : Nat) : Int)) = 1) = true := rfl
  have d2 : decide ((0 : Int) = 0) = true := rfl
  refine W_seq (W_region (by simp only [simq, Int.reduceEq, Nat.reduceEqDiff, d1, d2, List.length_cons, List.length_nil, Nat.zero_add]; rfl) (W_ret ⟨rfl, _, res_tmp res_nil, ?_, l2⟩))
  simp only [simq, Int.reduceEq, Nat.reduceEqDiff, tupled]; try rfl
end
end
end Go.Ev
