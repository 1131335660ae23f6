/-
  The kinds of lines, as the document and as the program tell them.
-/
import Derived.Test.YtoinadgkjnbejaaDoorPgBase
set_option linter.unusedVariables false
set_option linter.unusedSimpArgs false
namespace Go.Ev
noncomputable section
open Go.Pg
section
variable {E : Env} {f : FuncId} {s t : St}
set_option maxHeartbeats 4000000 in
theorem kind_run (hC : Codes E) (hf : Has E f Code.tithingref14_kind) (l : Ln) (hl : l.length ≤ 100000) : Cv E f [strOf l] s fun r t => t = s ∧ r = .tuple ⟨[.int .i64 ((kd l).1 : Nat), strOf (kd l).2]⟩ := by
  refine Cv_of hf.code ?_
  have h0 : (Tr.ofList (.e : Fr) 0 [strOf l]).get 0 = some (strOf l) := rfl
  generalize (Tr.ofList (.e : Fr) 0 [strOf l]) = fr0 at h0
  unfold Code.tithingref14_kind
  refine W_seq (W_region (by simp only [simq, Int.reduceEq, Nat.reduceEqDiff]; rfl) ?_)
  refine W_gen (T := [(0, strOf l)]) (all_cons (by simp only [simq, Int.reduceEq, Nat.reduceEqDiff, h0]) all_nil) fun fr1 g1 => ?_
  clear h0
  have h0 := g1 _ (.head _)
  simp only at h0
  clear g1
  refine W_seq (W_seq (W_opsM (Wo_run (by simp only [simq, Int.reduceEq, Nat.reduceEqDiff, h0]; rfl) (Wo_call hC.tithingref14_behind.prim (args := [strOf l, strOf wTitle]) (by simp only [simq, Int.reduceEq, Nat.reduceEqDiff]; try rfl) ((behind_run hC.tithingref14_behind l wTitle).mono ?_)))))
  rintro _ _ ⟨hs, rfl⟩
  rw [hs]; clear hs
  refine Wo_all (by simp only [simq, Int.reduceEq, Nat.reduceEqDiff, nth0, nth1]; rfl) ?_
  show W E _ _ _ _
  refine W_seq (W_region (by simp only [simq, Int.reduceEq, Nat.reduceEqDiff]; rfl) ?_)
  refine W_ifb (q := wTitle.isPrefixOf l) (by simp only [simq, Int.reduceEq, Nat.reduceEqDiff]) (fun hT => ?_) (fun hT => ?_)
  · refine W_seq (W_region (by simp only [simq, Int.reduceEq, Nat.reduceEqDiff]; rfl) (W_ret ⟨rfl, _, res_tmp (res_tmp res_nil), rfl, ?_⟩))
    have hk : kd l = (1, l.drop 9) := by unfold kd px; rw [if_pos hT]; rfl
    simp only [simq, Int.reduceEq, Nat.reduceEqDiff, tupled, hT, hk]; rfl
  have cT : ¬ (wTitle.isPrefixOf l = true) := by rw [hT]; simp
  refine W_skip ?_
  refine W_gen (T := [(0, strOf l)]) (all_cons (by simp only [simq, Int.reduceEq, Nat.reduceEqDiff, h0]) all_nil) fun fr2 g2 => ?_
  clear h0
  have h0 := g2 _ (.head _)
  simp only at h0
  clear g2
  refine W_seq (W_seq (W_opsM (Wo_run (by simp only [simq, Int.reduceEq, Nat.reduceEqDiff, h0]; rfl) (Wo_call hC.tithingref14_behind.prim (args := [strOf l, strOf wPages]) (by simp only [simq, Int.reduceEq, Nat.reduceEqDiff]; try rfl) ((behind_run hC.tithingref14_behind l wPages).mono ?_)))))
  rintro _ _ ⟨hs, rfl⟩
  rw [hs]; clear hs
  refine Wo_all (by simp only [simq, Int.reduceEq, Nat.reduceEqDiff, nth0, nth1]; rfl) ?_
  show W E _ _ _ _
  refine W_seq (W.mono (Q := fun e fr' t' => e = .normal ∧ t' = s ∧ fr'.get 31 = some (.bool (wPages.isPrefixOf l && isNum (l.drop 9))) ∧ fr'.get 6 = some (strOf (if wPages.isPrefixOf l then l.drop 9 else [])) ∧ fr'.get 0 = some (strOf l)) ?_ ?_)
  · cases hP : wPages.isPrefixOf l with
    | false =>
      exact W_opsM (Wo_all (by simp only [simq, Int.reduceEq, Nat.reduceEqDiff]; rfl) ⟨rfl, rfl, by simp only [simq, Int.reduceEq, Nat.reduceEqDiff]; rfl, by simp only [simq, Int.reduceEq, Nat.reduceEqDiff], by simp only [simq, Int.reduceEq, Nat.reduceEqDiff, h0]⟩)
    | true =>
      refine W_opsM (Wo_run (by simp only [simq, Int.reduceEq, Nat.reduceEqDiff]; rfl) (Wo_gt (by simp only [simq, Int.reduceEq, Nat.reduceEqDiff]) (Wo_call hC.tithingref14_number.prim (args := [strOf (l.drop 9)]) (by simp only [simq, Int.reduceEq, Nat.reduceEqDiff]; try rfl) ((number_run hC.tithingref14_number (l.drop 9)).mono ?_))))
      rintro _ _ ⟨hs, rfl⟩
      rw [hs]; clear hs
      exact Wo_all (by simp only [simq, Int.reduceEq, Nat.reduceEqDiff, numZ_pos]; rfl) ⟨rfl, rfl, by simp only [simq, Int.reduceEq, Nat.reduceEqDiff, numZ_pos]; rfl, by simp only [simq, Int.reduceEq, Nat.reduceEqDiff]; rfl, by simp only [simq, Int.reduceEq, Nat.reduceEqDiff, h0]⟩
  rintro _ fr21 t2 ⟨rfl, ht, q1, q2, q0⟩
  rw [ht]; clear ht h0
  have h0 := q0
  show W E _ fr21 _ _
  refine W_ifb (q := wPages.isPrefixOf l && isNum (l.drop 9)) (by simp only [simq, Int.reduceEq, Nat.reduceEqDiff, q1]) (fun hP => ?_) (fun hP => ?_)
  · have hp : wPages.isPrefixOf l = true := (Bool.and_eq_true_iff.1 hP).1
    refine W_seq (W_region (by simp only [simq, Int.reduceEq, Nat.reduceEqDiff, q2]; rfl) (W_ret ⟨rfl, _, res_tmp (res_tmp res_nil), rfl, ?_⟩))
    have hk : kd l = (2, l.drop 9) := by unfold kd px; rw [if_neg cT, if_pos hP]; rfl
    simp only [simq, Int.reduceEq, Nat.reduceEqDiff, tupled, hp, hk]; rfl
  have cP : ¬ ((wPages.isPrefixOf l && isNum (l.drop 9)) = true) := by rw [hP]; simp
  refine W_skip ?_
  refine W_gen (T := [(0, strOf l)]) (all_cons (by simp only [simq, Int.reduceEq, Nat.reduceEqDiff, h0]) all_nil) fun fr3 g3 => ?_
  clear h0
  have h0 := g3 _ (.head _)
  simp only at h0
  clear g3
  refine W_seq (W_seq (W_opsM (Wo_run (by simp only [simq, Int.reduceEq, Nat.reduceEqDiff, h0]; rfl) (Wo_call hC.tithingref14_behind.prim (args := [strOf l, strOf wInclude]) (by simp only [simq, Int.reduceEq, Nat.reduceEqDiff]; try rfl) ((behind_run hC.tithingref14_behind l wInclude).mono ?_)))))
  rintro _ _ ⟨hs, rfl⟩
  rw [hs]; clear hs
  refine Wo_all (by simp only [simq, Int.reduceEq, Nat.reduceEqDiff, nth0, nth1]; rfl) ?_
  show W E _ _ _ _
  refine W_seq (W.mono (Q := fun e fr' t' => e = .normal ∧ t' = s ∧ fr'.get 42 = some (.bool (wInclude.isPrefixOf l && isNm (l.drop 11))) ∧ fr'.get 8 = some (strOf (if wInclude.isPrefixOf l then l.drop 11 else [])) ∧ fr'.get 0 = some (strOf l)) ?_ ?_)
  · cases hI : wInclude.isPrefixOf l with
    | false =>
      exact W_opsM (Wo_all (by simp only [simq, Int.reduceEq, Nat.reduceEqDiff]; rfl) ⟨rfl, rfl, by simp only [simq, Int.reduceEq, Nat.reduceEqDiff]; rfl, by simp only [simq, Int.reduceEq, Nat.reduceEqDiff], by simp only [simq, Int.reduceEq, Nat.reduceEqDiff, h0]⟩)
    | true =>
      refine W_opsM (Wo_run (by simp only [simq, Int.reduceEq, Nat.reduceEqDiff]; rfl) (Wo_gt (by simp only [simq, Int.reduceEq, Nat.reduceEqDiff]) (Wo_call hC.tithingref14_IsName.prim (args := [strOf (l.drop 11)]) (by simp only [simq, Int.reduceEq, Nat.reduceEqDiff]; try rfl) ((IsName_run hC.tithingref14_IsName (l.drop 11) (by simp; omega)).mono ?_))))
      rintro _ _ ⟨hs, rfl⟩
      rw [hs]; clear hs
      exact Wo_all (by simp only [simq, Int.reduceEq, Nat.reduceEqDiff]; rfl) ⟨rfl, rfl, by simp only [simq, Int.reduceEq, Nat.reduceEqDiff]; rfl, by simp only [simq, Int.reduceEq, Nat.reduceEqDiff]; rfl, by simp only [simq, Int.reduceEq, Nat.reduceEqDiff, h0]⟩
  rintro _ fr31 t3 ⟨rfl, ht, q1, q2, q0⟩
  rw [ht]; clear ht h0
  have h0 := q0
  show W E _ fr31 _ _
  refine W_ifb (q := wInclude.isPrefixOf l && isNm (l.drop 11)) (by simp only [simq, Int.reduceEq, Nat.reduceEqDiff, q1]) (fun hI => ?_) (fun hI => ?_)
  · have hp : wInclude.isPrefixOf l = true := (Bool.and_eq_true_iff.1 hI).1
    refine W_seq (W_region (by simp only [simq, Int.reduceEq, Nat.reduceEqDiff, q2]; rfl) (W_ret ⟨rfl, _, res_tmp (res_tmp res_nil), rfl, ?_⟩))
    have hk : kd l = (4, l.drop 11) := by unfold kd px; rw [if_neg cT, if_neg cP, if_pos hI]; rfl
    simp only [simq, Int.reduceEq, Nat.reduceEqDiff, tupled, hp, hk]; rfl
  have cI : ¬ ((wInclude.isPrefixOf l && isNm (l.drop 11)) = true) := by rw [hI]; simp
  refine W_skip ?_
  refine W_gen (T := [(0, strOf l)]) (all_cons (by simp only [simq, Int.reduceEq, Nat.reduceEqDiff, h0]) all_nil) fun fr4 g4 => ?_
  clear h0
  have h0 := g4 _ (.head _)
  simp only at h0
  clear g4
  refine W_seq (W_seq (W_opsM (Wo_run (by simp only [simq, Int.reduceEq, Nat.reduceEqDiff, h0]; rfl) (Wo_call hC.tithingref14_behind.prim (args := [strOf l, strOf wBegin]) (by simp only [simq, Int.reduceEq, Nat.reduceEqDiff]; try rfl) ((behind_run hC.tithingref14_behind l wBegin).mono ?_)))))
  rintro _ _ ⟨hs, rfl⟩
  rw [hs]; clear hs
  refine Wo_all (by simp only [simq, Int.reduceEq, Nat.reduceEqDiff, nth0, nth1]; rfl) ?_
  show W E _ _ _ _
  refine W_seq (W.mono (Q := fun e fr' t' => e = .normal ∧ t' = s ∧ fr'.get 53 = some (.bool (wBegin.isPrefixOf l && isNm (l.drop 9))) ∧ fr'.get 10 = some (strOf (if wBegin.isPrefixOf l then l.drop 9 else [])) ∧ fr'.get 0 = some (strOf l)) ?_ ?_)
  · cases hB : wBegin.isPrefixOf l with
    | false =>
      exact W_opsM (Wo_all (by simp only [simq, Int.reduceEq, Nat.reduceEqDiff]; rfl) ⟨rfl, rfl, by simp only [simq, Int.reduceEq, Nat.reduceEqDiff]; rfl, by simp only [simq, Int.reduceEq, Nat.reduceEqDiff], by simp only [simq, Int.reduceEq, Nat.reduceEqDiff, h0]⟩)
    | true =>
      refine W_opsM (Wo_run (by simp only [simq, Int.reduceEq, Nat.reduceEqDiff]; rfl) (Wo_gt (by simp only [simq, Int.reduceEq, Nat.reduceEqDiff]) (Wo_call hC.tithingref14_IsName.prim (args := [strOf (l.drop 9)]) (by simp only [simq, Int.reduceEq, Nat.reduceEqDiff]; try rfl) ((IsName_run hC.tithingref14_IsName (l.drop 9) (by simp; omega)).mono ?_))))
      rintro _ _ ⟨hs, rfl⟩
      rw [hs]; clear hs
      exact Wo_all (by simp only [simq, Int.reduceEq, Nat.reduceEqDiff]; rfl) ⟨rfl, rfl, by simp only [simq, Int.reduceEq, Nat.reduceEqDiff]; rfl, by simp only [simq, Int.reduceEq, Nat.reduceEqDiff]; rfl, by simp only [simq, Int.reduceEq, Nat.reduceEqDiff, h0]⟩
  rintro _ fr41 t4 ⟨rfl, ht, q1, q2, q0⟩
  rw [ht]; clear ht h0
  have h0 := q0
  show W E _ fr41 _ _
  refine W_ifb (q := wBegin.isPrefixOf l && isNm (l.drop 9)) (by simp only [simq, Int.reduceEq, Nat.reduceEqDiff, q1]) (fun hB => ?_) (fun hB => ?_)
  · have hp : wBegin.isPrefixOf l = true := (Bool.and_eq_true_iff.1 hB).1
    refine W_seq (W_region (by simp only [simq, Int.reduceEq, Nat.reduceEqDiff, q2]; rfl) (W_ret ⟨rfl, _, res_tmp (res_tmp res_nil), rfl, ?_⟩))
    have hk : kd l = (5, l.drop 9) := by unfold kd px; rw [if_neg cT, if_neg cP, if_neg cI, if_pos hB]; rfl
    simp only [simq, Int.reduceEq, Nat.reduceEqDiff, tupled, hp, hk]; rfl
  have cB : ¬ ((wBegin.isPrefixOf l && isNm (l.drop 9)) = true) := by rw [hB]; simp
  refine W_skip ?_
  refine W_gen (T := [(0, strOf l)]) (all_cons (by simp only [simq, Int.reduceEq, Nat.reduceEqDiff, h0]) all_nil) fun fr5 g5 => ?_
  clear h0
  have h0 := g5 _ (.head _)
  simp only at h0
  clear g5
  refine W_seq (W_seq (W_opsM (Wo_run (by simp only [simq, Int.reduceEq, Nat.reduceEqDiff, h0]; rfl) (Wo_call hC.tithingref14_behind.prim (args := [strOf l, strOf wPage]) (by simp only [simq, Int.reduceEq, Nat.reduceEqDiff]; try rfl) ((behind_run hC.tithingref14_behind l wPage).mono ?_)))))
  rintro _ _ ⟨hs, rfl⟩
  rw [hs]; clear hs
  refine Wo_all (by simp only [simq, Int.reduceEq, Nat.reduceEqDiff, nth0, nth1]; rfl) ?_
  show W E _ _ _ _
  refine W_seq (W.mono (Q := fun e fr' t' => e = .normal ∧ t' = s ∧ fr'.get 65 = some (.bool (wPage.isPrefixOf l && isNum (l.drop 8))) ∧ fr'.get 12 = some (strOf (if wPage.isPrefixOf l then l.drop 8 else [])) ∧ fr'.get 0 = some (strOf l)) ?_ ?_)
  · cases hG : wPage.isPrefixOf l with
    | false =>
      exact W_opsM (Wo_all (by simp only [simq, Int.reduceEq, Nat.reduceEqDiff]; rfl) ⟨rfl, rfl, by simp only [simq, Int.reduceEq, Nat.reduceEqDiff]; rfl, by simp only [simq, Int.reduceEq, Nat.reduceEqDiff], by simp only [simq, Int.reduceEq, Nat.reduceEqDiff, h0]⟩)
    | true =>
      refine W_opsM (Wo_run (by simp only [simq, Int.reduceEq, Nat.reduceEqDiff]; rfl) (Wo_gt (by simp only [simq, Int.reduceEq, Nat.reduceEqDiff]) (Wo_call hC.tithingref14_number.prim (args := [strOf (l.drop 8)]) (by simp only [simq, Int.reduceEq, Nat.reduceEqDiff]; try rfl) ((number_run hC.tithingref14_number (l.drop 8)).mono ?_))))
      rintro _ _ ⟨hs, rfl⟩
      rw [hs]; clear hs
      exact Wo_all (by simp only [simq, Int.reduceEq, Nat.reduceEqDiff, numZ_pos]; rfl) ⟨rfl, rfl, by simp only [simq, Int.reduceEq, Nat.reduceEqDiff, numZ_pos]; rfl, by simp only [simq, Int.reduceEq, Nat.reduceEqDiff]; rfl, by simp only [simq, Int.reduceEq, Nat.reduceEqDiff, h0]⟩
  rintro _ fr51 t5 ⟨rfl, ht, q1, q2, q0⟩
  rw [ht]; clear ht h0
  have h0 := q0
  show W E _ fr51 _ _
  refine W_ifb (q := wPage.isPrefixOf l && isNum (l.drop 8)) (by simp only [simq, Int.reduceEq, Nat.reduceEqDiff, q1]) (fun hG => ?_) (fun hG => ?_)
  · have hp : wPage.isPrefixOf l = true := (Bool.and_eq_true_iff.1 hG).1
    refine W_seq (W_region (by simp only [simq, Int.reduceEq, Nat.reduceEqDiff, q2]; rfl) (W_ret ⟨rfl, _, res_tmp (res_tmp res_nil), rfl, ?_⟩))
    have hk : kd l = (7, l.drop 8) := by unfold kd px; rw [if_neg cT, if_neg cP, if_neg cI, if_neg cB, if_pos hG]; rfl
    simp only [simq, Int.reduceEq, Nat.reduceEqDiff, tupled, hp, hk]; rfl
  have cG : ¬ ((wPage.isPrefixOf l && isNum (l.drop 8)) = true) := by rw [hG]; simp
  refine W_skip ?_
  have hpx : px l = none := by unfold px; rw [if_neg cT, if_neg cP, if_neg cI, if_neg cB, if_neg cG]
  have hkd : kd l = (ex l, []) := by unfold kd; rw [hpx]; rfl
  show W E _ _ _ _
  refine W_seq (W_seq (W_region (by simp only [simq, Int.reduceEq, Nat.reduceEqDiff, h0]; rfl) (W_block ?_)))
  rw [hkd]
  unfold ex
  by_cases e3 : l = wEndHeader
  · have d3 : decide (l = wEndHeader) = true := decide_eq_true e3
    unfold wEndHeader at d3
    refine W_seq (W_region (by simp only [simq, Int.reduceEq, Nat.reduceEqDiff, d3]; rfl) (W_then (by simp only [simq, Int.reduceEq, Nat.reduceEqDiff]) (W_seq (W_region (by simp only [simq, Int.reduceEq, Nat.reduceEqDiff]; rfl) (W_ret ⟨rfl, _, res_tmp (res_tmp res_nil), rfl, ?_⟩)))))
    rw [if_pos e3]
    simp only [simq, Int.reduceEq, Nat.reduceEqDiff, tupled]; rfl
  have d3 : decide (l = wEndHeader) = false := decide_eq_false e3
  unfold wEndHeader at d3
  rw [if_neg e3]
  refine W_seq (W_region (by simp only [simq, Int.reduceEq, Nat.reduceEqDiff, d3]; rfl) (W_else (by simp only [simq, Int.reduceEq, Nat.reduceEqDiff]) ?_))
  by_cases e6 : l = wEnd
  · have d6 : decide (l = wEnd) = true := decide_eq_true e6
    unfold wEnd at d6
    refine W_seq (W_region (by simp only [simq, Int.reduceEq, Nat.reduceEqDiff, d6]; rfl) (W_then (by simp only [simq, Int.reduceEq, Nat.reduceEqDiff]) (W_seq (W_region (by simp only [simq, Int.reduceEq, Nat.reduceEqDiff]; rfl) (W_ret ⟨rfl, _, res_tmp (res_tmp res_nil), rfl, ?_⟩)))))
    rw [if_pos e6]
    simp only [simq, Int.reduceEq, Nat.reduceEqDiff, tupled]; rfl
  have d6 : decide (l = wEnd) = false := decide_eq_false e6
  unfold wEnd at d6
  rw [if_neg e6]
  refine W_seq (W_region (by simp only [simq, Int.reduceEq, Nat.reduceEqDiff, d6]; rfl) (W_else (by simp only [simq, Int.reduceEq, Nat.reduceEqDiff]) ?_))
  by_cases e8 : l = wTrailer
  · have d8 : decide (l = wTrailer) = true := decide_eq_true e8
    unfold wTrailer at d8
    refine W_seq (W_region (by simp only [simq, Int.reduceEq, Nat.reduceEqDiff, d8]; rfl) (W_then (by simp only [simq, Int.reduceEq, Nat.reduceEqDiff]) (W_seq (W_region (by simp only [simq, Int.reduceEq, Nat.reduceEqDiff]; rfl) (W_ret ⟨rfl, _, res_tmp (res_tmp res_nil), rfl, ?_⟩)))))
    rw [if_pos e8]
    simp only [simq, Int.reduceEq, Nat.reduceEqDiff, tupled]; rfl
  have d8 : decide (l = wTrailer) = false := decide_eq_false e8
  unfold wTrailer at d8
  rw [if_neg e8]
  refine W_seq (W_region (by simp only [simq, Int.reduceEq, Nat.reduceEqDiff, d8]; rfl) (W_else (by simp only [simq, Int.reduceEq, Nat.reduceEqDiff]) ?_))
  by_cases e9 : l = wEof
  · have d9 : decide (l = wEof) = true := decide_eq_true e9
    unfold wEof at d9
    refine W_seq (W_region (by simp only [simq, Int.reduceEq, Nat.reduceEqDiff, d9]; rfl) (W_then (by simp only [simq, Int.reduceEq, Nat.reduceEqDiff]) (W_seq (W_region (by simp only [simq, Int.reduceEq, Nat.reduceEqDiff]; rfl) (W_ret ⟨rfl, _, res_tmp (res_tmp res_nil), rfl, ?_⟩)))))
    rw [if_pos e9]
    simp only [simq, Int.reduceEq, Nat.reduceEqDiff, tupled]; rfl
  have d9 : decide (l = wEof) = false := decide_eq_false e9
  unfold wEof at d9
  rw [if_neg e9]
  refine W_seq (W_region (by simp only [simq, Int.reduceEq, Nat.reduceEqDiff, d9]; rfl) (W_else (by simp only [simq, Int.reduceEq, Nat.reduceEqDiff]) ?_))
  refine W_skip ?_
  show W E _ _ _ _
  refine W_seq (W_region (by simp only [simq, Int.reduceEq, Nat.reduceEqDiff]; rfl) (W_ret ⟨rfl, _, res_tmp (res_tmp res_nil), rfl, ?_⟩))
  simp only [simq, Int.reduceEq, Nat.reduceEqDiff, tupled]; rfl
end
end
end Go.Ev
