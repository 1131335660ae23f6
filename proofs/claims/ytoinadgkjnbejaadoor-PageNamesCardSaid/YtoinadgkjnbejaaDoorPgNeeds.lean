/-
  What a text needs and has; the law of names.
-/
import Derived.Test.YtoinadgkjnbejaaDoorPgNamesR
import Derived.Test.YtoinadgkjnbejaaDoorPgParses
set_option linter.unusedVariables false
set_option linter.unusedSimpArgs false
namespace Go.Ev
noncomputable section
open Go.Pg
section
variable {E : Env} {f : FuncId} {s t u : St}
theorem PNeeds_run (hC : Codes E) (P : Prims E) (hf : Has E f Code.page_Needs) (G : Gl s) {l : Ln} (hl : l.length ≤ 100000) : Cv E f [strOf l] s (NamesPost s 4 l) := by
  refine Cv_of hf.code ?_
  have h0 : (Tr.ofList (.e : Fr) 0 [strOf l]).get 0 = some (strOf l) := rfl
  generalize (Tr.ofList (.e : Fr) 0 [strOf l]) = fr0 at h0
  unfold Code.page_Needs
  refine W_seq (W_region (by simp only [simq, Int.reduceEq, Nat.reduceEqDiff]; rfl) ?_)
  refine W_seq (W_opsM (Wo_run (by simp only [simq, Int.reduceEq, Nat.reduceEqDiff, h0]; rfl) (Wo_call hC.page_names.prim (args := [strOf l, strOf (wordOf 4)]) (by simp only [simq, Int.reduceEq, Nat.reduceEqDiff, h0]; try rfl) ((names_run hC P hC.page_names (s := s) G (k := 4) (by decide) hl).mono ?_))))
  rintro _ s2 ⟨v, rfl, l2, hv⟩
  refine Wo_all (by simp only [simq, Int.reduceEq, Nat.reduceEqDiff, nth0, nth1]; rfl) ?_
  show W E _ _ _ _
  refine W_ret ⟨rfl, _, res_tmp (res_tmp res_nil), v, by simp only [simq, Int.reduceEq, Nat.reduceEqDiff, tupled], l2, hv⟩
theorem RNeeds_run (hC : Codes E) (hf : Has E f Code.tithingref14_Needs) {l : Ln} (hl : l.length ≤ 100000) : Cv E f [strOf l] s (NamesPost s 4 l) := by
  refine Cv_of hf.code ?_
  have h0 : (Tr.ofList (.e : Fr) 0 [strOf l]).get 0 = some (strOf l) := rfl
  generalize (Tr.ofList (.e : Fr) 0 [strOf l]) = fr0 at h0
  unfold Code.tithingref14_Needs
  refine W_seq (W_region (by simp only [simq, Int.reduceEq, Nat.reduceEqDiff]; rfl) ?_)
  refine W_seq (W_opsM (Wo_run (by simp only [simq, Int.reduceEq, Nat.reduceEqDiff, h0]; rfl) (Wo_call hC.tithingref14_names.prim (args := [strOf l, .int .i64 ((4 : Nat) : Int)]) (by simp only [simq, Int.reduceEq, Nat.reduceEqDiff, h0]; try rfl) ((refNames_run hC hC.tithingref14_names (s := s) (k := 4) (by decide) hl).mono ?_))))
  rintro _ s2 ⟨v, rfl, l2, hv⟩
  refine Wo_all (by simp only [simq, Int.reduceEq, Nat.reduceEqDiff, nth0, nth1]; rfl) ?_
  show W E _ _ _ _
  refine W_ret ⟨rfl, _, res_tmp (res_tmp res_nil), v, by simp only [simq, Int.reduceEq, Nat.reduceEqDiff, tupled], l2, hv⟩
theorem PHas_run (hC : Codes E) (P : Prims E) (hf : Has E f Code.page_Has) (G : Gl s) {l : Ln} (hl : l.length ≤ 100000) : Cv E f [strOf l] s (NamesPost s 5 l) := by
  refine Cv_of hf.code ?_
  have h0 : (Tr.ofList (.e : Fr) 0 [strOf l]).get 0 = some (strOf l) := rfl
  generalize (Tr.ofList (.e : Fr) 0 [strOf l]) = fr0 at h0
  unfold Code.page_Has
  refine W_seq (W_region (by simp only [simq, Int.reduceEq, Nat.reduceEqDiff]; rfl) ?_)
  refine W_seq (W_opsM (Wo_run (by simp only [simq, Int.reduceEq, Nat.reduceEqDiff, h0]; rfl) (Wo_call hC.page_names.prim (args := [strOf l, strOf (wordOf 5)]) (by simp only [simq, Int.reduceEq, Nat.reduceEqDiff, h0]; try rfl) ((names_run hC P hC.page_names (s := s) G (k := 5) (by decide) hl).mono ?_))))
  rintro _ s2 ⟨v, rfl, l2, hv⟩
  refine Wo_all (by simp only [simq, Int.reduceEq, Nat.reduceEqDiff, nth0, nth1]; rfl) ?_
  show W E _ _ _ _
  refine W_ret ⟨rfl, _, res_tmp (res_tmp res_nil), v, by simp only [simq, Int.reduceEq, Nat.reduceEqDiff, tupled], l2, hv⟩
theorem RHas_run (hC : Codes E) (hf : Has E f Code.tithingref14_Has) {l : Ln} (hl : l.length ≤ 100000) : Cv E f [strOf l] s (NamesPost s 5 l) := by
  refine Cv_of hf.code ?_
  have h0 : (Tr.ofList (.e : Fr) 0 [strOf l]).get 0 = some (strOf l) := rfl
  generalize (Tr.ofList (.e : Fr) 0 [strOf l]) = fr0 at h0
  unfold Code.tithingref14_Has
  refine W_seq (W_region (by simp only [simq, Int.reduceEq, Nat.reduceEqDiff]; rfl) ?_)
  refine W_seq (W_opsM (Wo_run (by simp only [simq, Int.reduceEq, Nat.reduceEqDiff, h0]; rfl) (Wo_call hC.tithingref14_names.prim (args := [strOf l, .int .i64 ((5 : Nat) : Int)]) (by simp only [simq, Int.reduceEq, Nat.reduceEqDiff, h0]; try rfl) ((refNames_run hC hC.tithingref14_names (s := s) (k := 5) (by decide) hl).mono ?_))))
  rintro _ s2 ⟨v, rfl, l2, hv⟩
  refine Wo_all (by simp only [simq, Int.reduceEq, Nat.reduceEqDiff, nth0, nth1]; rfl) ?_
  show W E _ _ _ _
  refine W_ret ⟨rfl, _, res_tmp (res_tmp res_nil), v, by simp only [simq, Int.reduceEq, Nat.reduceEqDiff, tupled], l2, hv⟩
theorem SameTexts_run (hC : Codes E) (hf : Has E f Code.tithingref14_SameTexts) {hi : Nat} {v w : Value} {l m : List Ln} (hv : Texts s hi v l) (hw : Texts s hi w m) (hl : l.length ≤ 1000000) : Cv E f [v, w] s fun r t => t = s ∧ r = .bool (decide (l = m)) := by
  refine Cv_of hf.code ?_
  have h0 : (Tr.ofList (.e : Fr) 0 [v, w]).get 0 = some (v) := rfl
  have h1 : (Tr.ofList (.e : Fr) 0 [v, w]).get 1 = some (w) := rfl
  generalize (Tr.ofList (.e : Fr) 0 [v, w]) = fr0 at h0 h1
  unfold Code.tithingref14_SameTexts
  refine W_seq (W_region (by simp only [simq, Int.reduceEq, Nat.reduceEqDiff]; rfl) ?_)
  refine W_seq (W_opsM (Wo_run (by simp only [simq, Int.reduceEq, Nat.reduceEqDiff, h0, h1]; rfl) (Wo_call hC.tithingref14_sameLines.prim (args := [v, w]) (by simp only [simq, Int.reduceEq, Nat.reduceEqDiff]; try rfl) ((sameLines_run hC.tithingref14_sameLines (s := s) hv hw hl).mono ?_))))
  rintro _ s2 ⟨h2, rfl⟩
  rw [h2]
  refine Wo_all (by simp only [simq, Int.reduceEq, Nat.reduceEqDiff]; rfl) ?_
  show W E _ _ _ _
  refine W_ret ⟨rfl, _, res_tmp res_nil, rfl, by simp only [simq, Int.reduceEq, Nat.reduceEqDiff, tupled]⟩
set_option maxHeartbeats 8000000 in
theorem PageNames_run (hC : Codes E) (P : Prims E) (hf : Has E f Code.tithinglaw14_PageNames) (G : Gl s) (l : Ln) : Cv E f [strOf l] s fun r t => r = .bool true := by
  refine Cv_of hf.code ?_
  have h0 : (Tr.ofList (.e : Fr) 0 [strOf l]).get 0 = some (strOf l) := rfl
  generalize (Tr.ofList (.e : Fr) 0 [strOf l]) = fr0 at h0
  unfold Code.tithinglaw14_PageNames
  refine W_seq (W_region (by simp only [simq, Int.reduceEq, Nat.reduceEqDiff]; rfl) ?_)
  refine W_seq (W_seq (W_opsM (Wo_run (by simp only [simq, Int.reduceEq, Nat.reduceEqDiff, h0]; rfl) (Wo_call hC.tithinglaw14_long.prim (args := [strOf l]) (by simp only [simq, Int.reduceEq, Nat.reduceEqDiff]; try rfl) ((long_run hC.tithinglaw14_long l).mono ?_)))))
  rintro _ s1 ⟨rfl, l1⟩
  have l1 : Low s.next s s1 := l1
  refine Wo_all rfl ?_
  show W E _ _ _ _
  by_cases hl : 30000 < l.length
  · have d1 : decide (30000 < l.length) = true := decide_eq_true hl
    refine W_then (by simp only [simq, Int.reduceEq, Nat.reduceEqDiff, d1]) ?_
    refine W_seq (W_opsM (Wo_call hC.tithinglaw14_Awake.prim (args := []) (by simp only [simq, Int.reduceEq, Nat.reduceEqDiff]; try rfl) ((Awake_run hC P hC.tithinglaw14_Awake ((G.next l1).skip 0)).mono ?_)))
    rintro _ s2 ⟨rfl, l2⟩
    refine Wo_all (by simp only [simq, Int.reduceEq, Nat.reduceEqDiff]; rfl) ?_
    show W E _ _ _ _
    refine W_ret ⟨rfl, _, res_tmp res_nil, ?_⟩
    simp only [simq, Int.reduceEq, Nat.reduceEqDiff, tupled]
  have d1 : decide (30000 < l.length) = false := decide_eq_false hl
  refine W_else (by simp only [simq, Int.reduceEq, Nat.reduceEqDiff, d1]) (W_skip ?_)
  show W E _ _ _ _
  have hl' : l.length ≤ 100000 := by omega
  have G1 := G.next l1
  refine W_seq (W_opsM (Wo_run (by simp only [simq, Int.reduceEq, Nat.reduceEqDiff, h0]; rfl) (Wo_call hC.page_Needs.prim (args := [strOf l]) (by simp only [simq, Int.reduceEq, Nat.reduceEqDiff, h0]; try rfl) ((PNeeds_run hC P hC.page_Needs (s := s1) G1 hl').mono ?_))))
  rintro _ s2 ⟨v2, rfl, l2, hv2⟩
  have G2 := G1.next l2
  refine Wo_all (by simp only [simq, Int.reduceEq, Nat.reduceEqDiff, nth0, nth1]; rfl) ?_
  show W E _ _ _ _
  refine W_seq (W_opsM (Wo_run (by simp only [simq, Int.reduceEq, Nat.reduceEqDiff, h0]; rfl) (Wo_call hC.tithingref14_Needs.prim (args := [strOf l]) (by simp only [simq, Int.reduceEq, Nat.reduceEqDiff, h0]; try rfl) ((RNeeds_run hC hC.tithingref14_Needs (s := s2) hl').mono ?_))))
  rintro _ s3 ⟨v3, rfl, l3, hv3⟩
  have G3 := G2.next l3
  refine Wo_all (by simp only [simq, Int.reduceEq, Nat.reduceEqDiff, nth0, nth1]; rfl) ?_
  show W E _ _ _ _
  refine W_seq (W_opsM (Wo_run (by simp only [simq, Int.reduceEq, Nat.reduceEqDiff, h0]; rfl) (Wo_call hC.page_Has.prim (args := [strOf l]) (by simp only [simq, Int.reduceEq, Nat.reduceEqDiff, h0]; try rfl) ((PHas_run hC P hC.page_Has (s := s3) G3 hl').mono ?_))))
  rintro _ s4 ⟨v4, rfl, l4, hv4⟩
  have G4 := G3.next l4
  refine Wo_all (by simp only [simq, Int.reduceEq, Nat.reduceEqDiff, nth0, nth1]; rfl) ?_
  show W E _ _ _ _
  refine W_seq (W_opsM (Wo_run (by simp only [simq, Int.reduceEq, Nat.reduceEqDiff, h0]; rfl) (Wo_call hC.tithingref14_Has.prim (args := [strOf l]) (by simp only [simq, Int.reduceEq, Nat.reduceEqDiff, h0]; try rfl) ((RHas_run hC hC.tithingref14_Has (s := s4) hl').mono ?_))))
  rintro _ s5 ⟨v5, rfl, l5, hv5⟩
  have G5 := G4.next l5
  refine Wo_all (by simp only [simq, Int.reduceEq, Nat.reduceEqDiff, nth0, nth1]; rfl) ?_
  show W E _ _ _ _
  have hself : ∀ n : Int, decide (n = n) = true := fun n => decide_eq_true rfl
  have few := (docOf_few hl').n
  have hn4 := nmL_len 4 (allOf (docOf l))
  have hn5 := nmL_len 5 (allOf (docOf l))
  have w2 := ((hv2.next l3).next l4).next l5
  have w3 := (hv3.next l4).next l5
  have w4 := hv4.next l5
  refine W_seq (W_opsM (Wo_run (by simp only [simq, Int.reduceEq, Nat.reduceEqDiff]; rfl) (Wo_call hC.tithingref14_SameTexts.prim (args := [v2, v3]) (by simp only [simq, Int.reduceEq, Nat.reduceEqDiff]; try rfl) ((SameTexts_run hC hC.tithingref14_SameTexts (s := s5) w2 w3 (by omega)).mono ?_))))
  rintro _ s6 ⟨h6, rfl⟩
  rw [h6, show decide (nmL 4 (allOf (docOf l)) = nmL 4 (allOf (docOf l))) = true from decide_eq_true rfl]
  clear h6 s6
  refine Wo_run (by simp only [simq, Int.reduceEq, Nat.reduceEqDiff, hself]; rfl) (Wo_gt (by simp only [simq, Int.reduceEq, Nat.reduceEqDiff]) (Wo_call hC.tithingref14_SameTexts.prim (args := [v4, v5]) (by simp only [simq, Int.reduceEq, Nat.reduceEqDiff]; try rfl) ((SameTexts_run hC hC.tithingref14_SameTexts (s := s5) w4 hv5 (by omega)).mono ?_)))
  rintro _ s6 ⟨h6, rfl⟩
  rw [h6, show decide (nmL 5 (allOf (docOf l)) = nmL 5 (allOf (docOf l))) = true from decide_eq_true rfl]
  clear h6 s6
  refine Wo_run (by simp only [simq, Int.reduceEq, Nat.reduceEqDiff, hself]; rfl) (Wo_gt (by simp only [simq, Int.reduceEq, Nat.reduceEqDiff]) (Wo_call hC.tithinglaw14_Awake.prim (args := []) (by simp only [simq, Int.reduceEq, Nat.reduceEqDiff]; try rfl) ((Awake_run hC P hC.tithinglaw14_Awake (s := s5) G5).mono ?_)))
  rintro _ s7 ⟨rfl, l7⟩
  refine Wo_all (by simp only [simq, Int.reduceEq, Nat.reduceEqDiff]; rfl) ?_
  show W E _ _ _ _
  refine W_ret ⟨rfl, _, res_tmp res_nil, ?_⟩
  simp only [simq, Int.reduceEq, Nat.reduceEqDiff, tupled]
end
end
end Go.Ev
