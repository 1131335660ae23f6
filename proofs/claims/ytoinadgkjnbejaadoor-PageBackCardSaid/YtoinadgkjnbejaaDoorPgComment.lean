/-
  The kinds of lines, as the program tells them.
-/
import Derived.Test.YtoinadgkjnbejaaDoorPgKind
set_option linter.unusedVariables false
set_option linter.unusedSimpArgs false
namespace Go.Ev
noncomputable section
open Go.Pg
def wordOf (k : Nat) : Ln := match k with | 1 => wTitle | 2 => wPages | 3 => wEndHeader | 4 => wInclude | 5 => wBegin | 6 => wEnd | 7 => wPage | 8 => wTrailer | 9 => wEof | _ => []
theorem ex_word {l : Ln} (h : ex l ≠ 0) : wordOf (ex l) = l := by
  unfold ex at h ⊢
  split at h
  · rename_i e; rw [if_pos e, e]; rfl
  split at h
  · rename_i e1 e; rw [if_neg e1, if_pos e, e]; rfl
  split at h
  · rename_i e1 e2 e; rw [if_neg e1, if_neg e2, if_pos e, e]; rfl
  split at h
  · rename_i e1 e2 e3 e; rw [if_neg e1, if_neg e2, if_neg e3, if_pos e, e]; rfl
  · exact absurd rfl h
section
variable {E : Env} {f : FuncId} {s t : St}
def tried (i : Nat) (l : Ln) : Prop := (0 < i → wTitle.isPrefixOf l = false) ∧ (1 < i → (wPages.isPrefixOf l && isNum (l.drop 9)) = false) ∧ (2 < i → (wInclude.isPrefixOf l && isNm (l.drop 11)) = false) ∧ (3 < i → (wBegin.isPrefixOf l && isNm (l.drop 9)) = false) ∧ (4 < i → (wPage.isPrefixOf l && isNum (l.drop 8)) = false)
theorem nf {b : Bool} (h : b = false) : ¬ (b = true) := by rw [h]; simp
set_option maxHeartbeats 8000000 in
theorem comment_run (hC : Codes E) (P : Prims E) (hf : Has E f Code.page_comment) (G : Gl s) (l : Ln) (hl : l.length ≤ 100000) : Cv E f [strOf l] s fun r t => r = .tuple ⟨[strOf (wordOf (kd l).1), strOf (kd l).2]⟩ ∧ Low s.next s t := by
  refine Cv_of hf.code ?_
  have h0 : (Tr.ofList (.e : Fr) 0 [strOf l]).get 0 = some (strOf l) := rfl
  generalize (Tr.ofList (.e : Fr) 0 [strOf l]) = fr0 at h0
  unfold Code.page_comment
  refine W_seq (W_region (by simp only [simq, Int.reduceEq, Nat.reduceEqDiff]; rfl) ?_)
  refine W_seq (W_seq (W_region (by simp only [simq, Int.reduceEq, Nat.reduceEqDiff, h0]; rfl) (W_block (W_seq (W.mono (Q := fun e fr' t' => e = .normal ∧ t' = s ∧ fr'.get 9 = some (.bool (!decide (ex l = 0))) ∧ fr'.get 0 = some (strOf l)) ?_ ?_)))))
  · have hx : ∀ k, ex l = k + 1 → (!decide (ex l = 0)) = true := fun k h => by rw [h]; simp
    by_cases e3 : l = wEndHeader
    · have d3 : decide (l = wEndHeader) = true := decide_eq_true e3
      unfold wEndHeader at d3
      have hb := hx 2 (by unfold ex; rw [if_pos e3])
      exact W_seq (W_region (by simp only [simq, Int.reduceEq, Nat.reduceEqDiff, h0, d3]; rfl) (W_then (by simp only [simq, Int.reduceEq, Nat.reduceEqDiff]) (W_skip ⟨rfl, rfl, by simp only [simq, Int.reduceEq, Nat.reduceEqDiff, hb], by simp only [simq, Int.reduceEq, Nat.reduceEqDiff, h0]⟩)))
    have d3 : decide (l = wEndHeader) = false := decide_eq_false e3
    unfold wEndHeader at d3
    refine W_seq (W_region (by simp only [simq, Int.reduceEq, Nat.reduceEqDiff, h0, d3]; rfl) (W_else (by simp only [simq, Int.reduceEq, Nat.reduceEqDiff]) ?_))
    by_cases e6 : l = wEnd
    · have d6 : decide (l = wEnd) = true := decide_eq_true e6
      unfold wEnd at d6
      have hb := hx 5 (by unfold ex; rw [if_neg e3, if_pos e6])
      exact W_seq (W_region (by simp only [simq, Int.reduceEq, Nat.reduceEqDiff, h0, d6]; rfl) (W_then (by simp only [simq, Int.reduceEq, Nat.reduceEqDiff]) (W_skip ⟨rfl, rfl, by simp only [simq, Int.reduceEq, Nat.reduceEqDiff, hb], by simp only [simq, Int.reduceEq, Nat.reduceEqDiff, h0]⟩)))
    have d6 : decide (l = wEnd) = false := decide_eq_false e6
    unfold wEnd at d6
    refine W_seq (W_region (by simp only [simq, Int.reduceEq, Nat.reduceEqDiff, h0, d6]; rfl) (W_else (by simp only [simq, Int.reduceEq, Nat.reduceEqDiff]) ?_))
    by_cases e8 : l = wTrailer
    · have d8 : decide (l = wTrailer) = true := decide_eq_true e8
      unfold wTrailer at d8
      have hb := hx 7 (by unfold ex; rw [if_neg e3, if_neg e6, if_pos e8])
      exact W_seq (W_region (by simp only [simq, Int.reduceEq, Nat.reduceEqDiff, h0, d8]; rfl) (W_then (by simp only [simq, Int.reduceEq, Nat.reduceEqDiff]) (W_skip ⟨rfl, rfl, by simp only [simq, Int.reduceEq, Nat.reduceEqDiff, hb], by simp only [simq, Int.reduceEq, Nat.reduceEqDiff, h0]⟩)))
    have d8 : decide (l = wTrailer) = false := decide_eq_false e8
    unfold wTrailer at d8
    refine W_seq (W_region (by simp only [simq, Int.reduceEq, Nat.reduceEqDiff, h0, d8]; rfl) (W_else (by simp only [simq, Int.reduceEq, Nat.reduceEqDiff]) ?_))
    by_cases e9 : l = wEof
    · have d9 : decide (l = wEof) = true := decide_eq_true e9
      unfold wEof at d9
      have hb := hx 8 (by unfold ex; rw [if_neg e3, if_neg e6, if_neg e8, if_pos e9])
      exact W_region (by simp only [simq, Int.reduceEq, Nat.reduceEqDiff, h0, d9]; rfl) ⟨rfl, rfl, by simp only [simq, Int.reduceEq, Nat.reduceEqDiff, hb], by simp only [simq, Int.reduceEq, Nat.reduceEqDiff, h0]⟩
    have d9 : decide (l = wEof) = false := decide_eq_false e9
    unfold wEof at d9
    have hb : (!decide (ex l = 0)) = false := by unfold ex; rw [if_neg e3, if_neg e6, if_neg e8, if_neg e9]; rfl
    exact W_region (by simp only [simq, Int.reduceEq, Nat.reduceEqDiff, h0, d9]; rfl) ⟨rfl, rfl, by simp only [simq, Int.reduceEq, Nat.reduceEqDiff, hb], by simp only [simq, Int.reduceEq, Nat.reduceEqDiff, h0]⟩
  rintro _ fr1 t1 ⟨rfl, ht, q9, q0⟩
  rw [ht]; clear ht h0
  show W E _ fr1 _ _
  refine W_ifb (q := !decide (ex l = 0)) (by simp only [simq, Int.reduceEq, Nat.reduceEqDiff, q9]) (fun hq => ?_) (fun hq => W_skip ?_)
  · have he : ex l ≠ 0 := by simpa using hq
    refine W_seq (W_region (by simp only [simq, Int.reduceEq, Nat.reduceEqDiff, q0]; rfl) (W_ret ⟨rfl, _, res_tmp (res_tmp res_nil), ?_, Low.self s⟩))
    have hk : kd l = (ex l, []) := by rw [← kw_kd]; unfold kw; rw [if_pos he]
    simp only [simq, Int.reduceEq, Nat.reduceEqDiff, tupled, hk, ex_word he]
  have he : ex l = 0 := by simpa using hq
  show W E _ fr1 _ _
  refine W_seq (W_seq (W_ops ?_))
  refine Wo_buildSlice (size := 1) (lo := s.next) (n := 5) (cs := [strOf wTitle, strOf wPages, strOf wInclude, strOf wBegin, strOf wPage]) rfl rfl (Nat.le_add_right _ _) (by rw [next_skip]; omega) (by unfold open_; omega) ?_
  rintro s1 ⟨S1, -⟩ l1 hs1
  have L1 : Low s.next s s1 := ((Low.self s).skip 3).trans l1
  have n1 : s1.next = s.next + 3 := by rw [hs1, St.next_set, next_skip]
  have G1 := G.next L1
  clear hs1
  generalize hvv : Value.slice (some ⟨s.next + 0, 0, none⟩) 5 5 = v at S1
  have hlv : asSl v = some (some ⟨s.next + 0, 0, none⟩, 5, 5) := by rw [← hvv]; rfl
  refine Wo_all (by simp only [simq, Int.reduceEq, Nat.reduceEqDiff, hlv]; rfl) ?_
  show W E _ _ _ _
  refine W_block ?_
  unfold Code.page_comment_l0
  refine W_for (n := 5) (fun i fr t => Low s.next s t ∧ Low s1.next s1 t ∧ fr.get 0 = some (strOf l) ∧ fr.get 15 = some v ∧ tried i l) (by decide) (by decide) ?_ ?_ ?_ 0 (Nat.zero_le _) ⟨L1, Low.self s1, by simp only [simq, Int.reduceEq, Nat.reduceEqDiff, q0], by simp only [simq, Int.reduceEq, Nat.reduceEqDiff], ⟨fun h => absurd h (by decide), fun h => absurd h (by decide), fun h => absurd h (by decide), fun h => absurd h (by decide), fun h => absurd h (by decide)⟩⟩ (by simp only [simq, Int.reduceEq, Nat.reduceEqDiff]; rfl) (by simp only [simq, Int.reduceEq, Nat.reduceEqDiff]; rfl)
  · rintro i fr t x v hx ⟨e0, e1, e2, e3, e4⟩
    refine ⟨e0, e1, ?_, ?_, e4⟩ <;> rcases hx with rfl | rfl | rfl <;> simp only [simq, Int.reduceEq, Nat.reduceEqDiff, e2, e3]
  · rintro i fr t hlt ⟨Lt, Lt1, e0, e15, tr⟩ h17 h16
    have St1 := (S1.wide (hi' := s1.next) (by omega)).low Lt1 (Nat.le_refl _)
    have Gt := G1.next Lt1
    subst hvv
    obtain ⟨a, ha, hcell⟩ := St1.cell (i := i) hlt
    have ha' := Option.some.inj ha
    subst ha'
    have hb : Nat.blt i 5 = true := by rw [Nat.blt_eq]; exact hlt
    refine W_seq ?_
    obtain rfl | rfl | rfl | rfl | rfl : i = 0 ∨ i = 1 ∨ i = 2 ∨ i = 3 ∨ i = 4 := by omega
    · have hcell : t.cell ⟨s.next, 0, none⟩ = some (strOf [37, 37, 84, 105, 116, 108, 101, 58, 32]) := by rw [add_eq] at hcell; exact hcell
      have dwPages : decide (([37, 37, 84, 105, 116, 108, 101, 58, 32] : List UInt8) = [37, 37, 80, 97, 103, 101, 115, 58, 32]) = false := by decide
      have dwInclude : decide (([37, 37, 84, 105, 116, 108, 101, 58, 32] : List UInt8) = [37, 37, 73, 110, 99, 108, 117, 100, 101, 58, 32]) = false := by decide
      have dwBegin : decide (([37, 37, 84, 105, 116, 108, 101, 58, 32] : List UInt8) = [37, 37, 66, 101, 103, 105, 110, 58, 32]) = false := by decide
      have dwPage : decide (([37, 37, 84, 105, 116, 108, 101, 58, 32] : List UInt8) = [37, 37, 80, 97, 103, 101, 58, 32]) = false := by decide
      refine W_region (by simp only [simq, Int.reduceEq, Nat.reduceEqDiff, e15, h17, hb, hcell]; rfl) ?_
      show W E _ _ _ _
      cases hT : wTitle.isPrefixOf l with
      | false =>
        have hpx : (([37, 37, 84, 105, 116, 108, 101, 58, 32] : List UInt8)).isPrefixOf l = false := hT
        refine W_seq (W_opsM (Wo_all (by simp only [simq, Int.reduceEq, Nat.reduceEqDiff, e0, pc_some P.cutP, pCutPrefix_run, nth0, nth1, hpx]; rfl) ?_))
        show W E _ _ _ _
        refine W_seq (W_seq (W_region (by simp only [simq, Int.reduceEq, Nat.reduceEqDiff]; rfl) (W_then (by simp only [simq, Int.reduceEq, Nat.reduceEqDiff]) (W_exit ?_))))
        show (if (2 : Nat) = 2 then _ else _)
        rw [if_pos rfl]
        exact ⟨⟨Lt, Lt1, by simp only [simq, Int.reduceEq, Nat.reduceEqDiff, e0], by simp only [simq, Int.reduceEq, Nat.reduceEqDiff, e15], ⟨fun _ => hT, fun h => absurd h (by decide), fun h => absurd h (by decide), fun h => absurd h (by decide), fun h => absurd h (by decide)⟩⟩, by simp only [simq, Int.reduceEq, Nat.reduceEqDiff, h17], by simp only [simq, Int.reduceEq, Nat.reduceEqDiff, h16]⟩
      | true =>
        have hpx : (([37, 37, 84, 105, 116, 108, 101, 58, 32] : List UInt8)).isPrefixOf l = true := hT
        refine W_seq (W_opsM (Wo_all (by simp only [simq, Int.reduceEq, Nat.reduceEqDiff, e0, pc_some P.cutP, pCutPrefix_run, nth0, nth1, hpx]; rfl) ?_))
        show W E _ _ _ _
        refine W_seq (W_seq (W_region (by simp only [simq, Int.reduceEq, Nat.reduceEqDiff]; rfl) (W_else (by simp only [simq, Int.reduceEq, Nat.reduceEqDiff]) (W_skip ?_))))
        refine W_block (W_seq (W_seq (W_region (by simp only [simq, Int.reduceEq, Nat.reduceEqDiff, dwPages, dwInclude, dwBegin, dwPage]; rfl) ?_)))
        refine W_then (by simp only [simq, Int.reduceEq, Nat.reduceEqDiff]) (W_skip ?_)
        have LL := Lt
        refine W_then (by simp only [simq, Int.reduceEq, Nat.reduceEqDiff]) (W_seq (W_region (by simp only [simq, Int.reduceEq, Nat.reduceEqDiff]; rfl) (W_ret ⟨rfl, _, res_tmp (res_tmp res_nil), ?_, LL⟩)))
        have hk : kd l = (1, l.drop 9) := by unfold kd px; rw [if_pos hT]; rfl
        simp only [simq, Int.reduceEq, Nat.reduceEqDiff, tupled, hk]; rfl
    · have hcell : t.cell ⟨s.next, 1, none⟩ = some (strOf [37, 37, 80, 97, 103, 101, 115, 58, 32]) := by rw [add_eq] at hcell; exact hcell
      have dwTitle : decide (([37, 37, 80, 97, 103, 101, 115, 58, 32] : List UInt8) = [37, 37, 84, 105, 116, 108, 101, 58, 32]) = false := by decide
      have dwInclude : decide (([37, 37, 80, 97, 103, 101, 115, 58, 32] : List UInt8) = [37, 37, 73, 110, 99, 108, 117, 100, 101, 58, 32]) = false := by decide
      have dwBegin : decide (([37, 37, 80, 97, 103, 101, 115, 58, 32] : List UInt8) = [37, 37, 66, 101, 103, 105, 110, 58, 32]) = false := by decide
      have dwPage : decide (([37, 37, 80, 97, 103, 101, 115, 58, 32] : List UInt8) = [37, 37, 80, 97, 103, 101, 58, 32]) = false := by decide
      refine W_region (by simp only [simq, Int.reduceEq, Nat.reduceEqDiff, e15, h17, hb, hcell]; rfl) ?_
      show W E _ _ _ _
      cases hP : wPages.isPrefixOf l with
      | false =>
        have hpx : (([37, 37, 80, 97, 103, 101, 115, 58, 32] : List UInt8)).isPrefixOf l = false := hP
        refine W_seq (W_opsM (Wo_all (by simp only [simq, Int.reduceEq, Nat.reduceEqDiff, e0, pc_some P.cutP, pCutPrefix_run, nth0, nth1, hpx]; rfl) ?_))
        show W E _ _ _ _
        refine W_seq (W_seq (W_region (by simp only [simq, Int.reduceEq, Nat.reduceEqDiff]; rfl) (W_then (by simp only [simq, Int.reduceEq, Nat.reduceEqDiff]) (W_exit ?_))))
        show (if (2 : Nat) = 2 then _ else _)
        rw [if_pos rfl]
        exact ⟨⟨Lt, Lt1, by simp only [simq, Int.reduceEq, Nat.reduceEqDiff, e0], by simp only [simq, Int.reduceEq, Nat.reduceEqDiff, e15], ⟨fun _ => tr.1 (by decide), fun _ => by rw [hP]; rfl, fun h => absurd h (by decide), fun h => absurd h (by decide), fun h => absurd h (by decide)⟩⟩, by simp only [simq, Int.reduceEq, Nat.reduceEqDiff, h17], by simp only [simq, Int.reduceEq, Nat.reduceEqDiff, h16]⟩
      | true =>
        have hpx : (([37, 37, 80, 97, 103, 101, 115, 58, 32] : List UInt8)).isPrefixOf l = true := hP
        refine W_seq (W_opsM (Wo_all (by simp only [simq, Int.reduceEq, Nat.reduceEqDiff, e0, pc_some P.cutP, pCutPrefix_run, nth0, nth1, hpx]; rfl) ?_))
        show W E _ _ _ _
        refine W_seq (W_seq (W_region (by simp only [simq, Int.reduceEq, Nat.reduceEqDiff]; rfl) (W_else (by simp only [simq, Int.reduceEq, Nat.reduceEqDiff]) (W_skip ?_))))
        refine W_block (W_seq (W_seq (W_region (by simp only [simq, Int.reduceEq, Nat.reduceEqDiff, dwTitle, dwInclude, dwBegin, dwPage]; rfl) ?_)))
        refine W_else (by simp only [simq, Int.reduceEq, Nat.reduceEqDiff]) ?_
        refine W_seq (W_opsM (Wo_run (by simp only [simq, Int.reduceEq, Nat.reduceEqDiff, dwTitle, dwInclude, dwBegin, dwPage]; rfl) (Wo_gt (by simp only [simq, Int.reduceEq, Nat.reduceEqDiff]) (Wo_call hC.page_isNumber.prim (args := [strOf (l.drop 9)]) (by simp only [simq, Int.reduceEq, Nat.reduceEqDiff]; try rfl) ((isNumber_run P hC.page_isNumber Gt (l := l.drop 9) (by simp; omega)).mono ?_)))))
        rintro _ t2 ⟨rfl, l2⟩
        have LL : Low s.next s t2 := Lt.trans (l2.weak Lt.2.1)
        have LL1 : Low s1.next s1 t2 := Lt1.trans (l2.weak Lt1.2.1)
        cases hok : isNum (l.drop 9) with
        | true =>
          refine Wo_all (by simp only [simq, Int.reduceEq, Nat.reduceEqDiff]; rfl) ?_
          show W E _ _ _ _
          refine W_then (by simp only [simq, Int.reduceEq, Nat.reduceEqDiff]) (W_skip ?_)
          refine W_then (by simp only [simq, Int.reduceEq, Nat.reduceEqDiff]) (W_seq (W_region (by simp only [simq, Int.reduceEq, Nat.reduceEqDiff]; rfl) (W_ret ⟨rfl, _, res_tmp (res_tmp res_nil), ?_, LL⟩)))
          have hk : kd l = (2, l.drop 9) := by unfold kd px; rw [if_neg (nf (tr.1 (by decide))), if_pos (by rw [hP, hok]; rfl)]; rfl
          simp only [simq, Int.reduceEq, Nat.reduceEqDiff, tupled, hk]; rfl
        | false =>
          refine Wo_all (by simp only [simq, Int.reduceEq, Nat.reduceEqDiff]; rfl) ?_
          show W E _ _ _ _
          refine W_else (by simp only [simq, Int.reduceEq, Nat.reduceEqDiff]) (W_opsM (Wo_all (by simp only [simq, Int.reduceEq, Nat.reduceEqDiff, dwTitle, dwInclude, dwBegin, dwPage]; rfl) ?_))
          show W E _ _ _ _
          refine W_else (by simp only [simq, Int.reduceEq, Nat.reduceEqDiff]) (W_skip ⟨⟨LL, LL1, by simp only [simq, Int.reduceEq, Nat.reduceEqDiff, e0], by simp only [simq, Int.reduceEq, Nat.reduceEqDiff, e15], ⟨fun _ => tr.1 (by decide), fun _ => by rw [hP, hok]; rfl, fun h => absurd h (by decide), fun h => absurd h (by decide), fun h => absurd h (by decide)⟩⟩, by simp only [simq, Int.reduceEq, Nat.reduceEqDiff, h17], by simp only [simq, Int.reduceEq, Nat.reduceEqDiff, h16]⟩)
    · have hcell : t.cell ⟨s.next, 2, none⟩ = some (strOf [37, 37, 73, 110, 99, 108, 117, 100, 101, 58, 32]) := by rw [add_eq] at hcell; exact hcell
      have dwTitle : decide (([37, 37, 73, 110, 99, 108, 117, 100, 101, 58, 32] : List UInt8) = [37, 37, 84, 105, 116, 108, 101, 58, 32]) = false := by decide
      have dwPages : decide (([37, 37, 73, 110, 99, 108, 117, 100, 101, 58, 32] : List UInt8) = [37, 37, 80, 97, 103, 101, 115, 58, 32]) = false := by decide
      have dwBegin : decide (([37, 37, 73, 110, 99, 108, 117, 100, 101, 58, 32] : List UInt8) = [37, 37, 66, 101, 103, 105, 110, 58, 32]) = false := by decide
      have dwPage : decide (([37, 37, 73, 110, 99, 108, 117, 100, 101, 58, 32] : List UInt8) = [37, 37, 80, 97, 103, 101, 58, 32]) = false := by decide
      refine W_region (by simp only [simq, Int.reduceEq, Nat.reduceEqDiff, e15, h17, hb, hcell]; rfl) ?_
      show W E _ _ _ _
      cases hI : wInclude.isPrefixOf l with
      | false =>
        have hpx : (([37, 37, 73, 110, 99, 108, 117, 100, 101, 58, 32] : List UInt8)).isPrefixOf l = false := hI
        refine W_seq (W_opsM (Wo_all (by simp only [simq, Int.reduceEq, Nat.reduceEqDiff, e0, pc_some P.cutP, pCutPrefix_run, nth0, nth1, hpx]; rfl) ?_))
        show W E _ _ _ _
        refine W_seq (W_seq (W_region (by simp only [simq, Int.reduceEq, Nat.reduceEqDiff]; rfl) (W_then (by simp only [simq, Int.reduceEq, Nat.reduceEqDiff]) (W_exit ?_))))
        show (if (2 : Nat) = 2 then _ else _)
        rw [if_pos rfl]
        exact ⟨⟨Lt, Lt1, by simp only [simq, Int.reduceEq, Nat.reduceEqDiff, e0], by simp only [simq, Int.reduceEq, Nat.reduceEqDiff, e15], ⟨fun _ => tr.1 (by decide), fun _ => tr.2.1 (by decide), fun _ => by rw [hI]; rfl, fun h => absurd h (by decide), fun h => absurd h (by decide)⟩⟩, by simp only [simq, Int.reduceEq, Nat.reduceEqDiff, h17], by simp only [simq, Int.reduceEq, Nat.reduceEqDiff, h16]⟩
      | true =>
        have hpx : (([37, 37, 73, 110, 99, 108, 117, 100, 101, 58, 32] : List UInt8)).isPrefixOf l = true := hI
        refine W_seq (W_opsM (Wo_all (by simp only [simq, Int.reduceEq, Nat.reduceEqDiff, e0, pc_some P.cutP, pCutPrefix_run, nth0, nth1, hpx]; rfl) ?_))
        show W E _ _ _ _
        refine W_seq (W_seq (W_region (by simp only [simq, Int.reduceEq, Nat.reduceEqDiff]; rfl) (W_else (by simp only [simq, Int.reduceEq, Nat.reduceEqDiff]) (W_skip ?_))))
        refine W_block (W_seq (W_seq (W_region (by simp only [simq, Int.reduceEq, Nat.reduceEqDiff, dwTitle, dwPages, dwBegin, dwPage]; rfl) ?_)))
        refine W_else (by simp only [simq, Int.reduceEq, Nat.reduceEqDiff]) ?_
        refine W_seq (W_opsM (Wo_all (by simp only [simq, Int.reduceEq, Nat.reduceEqDiff, dwTitle, dwPages, dwBegin, dwPage]; rfl) ?_))
        show W E _ _ _ _
        refine W_else (by simp only [simq, Int.reduceEq, Nat.reduceEqDiff]) ?_
        refine W_opsM (Wo_run (by simp only [simq, Int.reduceEq, Nat.reduceEqDiff, dwTitle, dwPages, dwBegin, dwPage]; rfl) (Wo_gt (by simp only [simq, Int.reduceEq, Nat.reduceEqDiff]) (Wo_call hC.page_isName.prim (args := [strOf (l.drop 11)]) (by simp only [simq, Int.reduceEq, Nat.reduceEqDiff]; try rfl) ((isName_run hC.page_isName (l.drop 11) (by simp; omega)).mono ?_))))
        rintro _ t2 ⟨rfl, l2⟩
        have LL : Low s.next s t2 := Lt.trans (l2.weak Lt.2.1)
        have LL1 : Low s1.next s1 t2 := Lt1.trans (l2.weak Lt1.2.1)
        cases hok : isNm (l.drop 11) with
        | true =>
          refine Wo_all (by simp only [simq, Int.reduceEq, Nat.reduceEqDiff]; rfl) ?_
          show W E _ _ _ _
          refine W_then (by simp only [simq, Int.reduceEq, Nat.reduceEqDiff]) (W_seq (W_region (by simp only [simq, Int.reduceEq, Nat.reduceEqDiff]; rfl) (W_ret ⟨rfl, _, res_tmp (res_tmp res_nil), ?_, LL⟩)))
          have hk : kd l = (4, l.drop 11) := by unfold kd px; rw [if_neg (nf (tr.1 (by decide))), if_neg (nf (tr.2.1 (by decide))), if_pos (by rw [hI, hok]; rfl)]; rfl
          simp only [simq, Int.reduceEq, Nat.reduceEqDiff, tupled, hk]; rfl
        | false =>
          refine Wo_all (by simp only [simq, Int.reduceEq, Nat.reduceEqDiff]; rfl) ?_
          show W E _ _ _ _
          refine W_else (by simp only [simq, Int.reduceEq, Nat.reduceEqDiff]) (W_skip ⟨⟨LL, LL1, by simp only [simq, Int.reduceEq, Nat.reduceEqDiff, e0], by simp only [simq, Int.reduceEq, Nat.reduceEqDiff, e15], ⟨fun _ => tr.1 (by decide), fun _ => tr.2.1 (by decide), fun _ => by rw [hI, hok]; rfl, fun h => absurd h (by decide), fun h => absurd h (by decide)⟩⟩, by simp only [simq, Int.reduceEq, Nat.reduceEqDiff, h17], by simp only [simq, Int.reduceEq, Nat.reduceEqDiff, h16]⟩)
    · have hcell : t.cell ⟨s.next, 3, none⟩ = some (strOf [37, 37, 66, 101, 103, 105, 110, 58, 32]) := by rw [add_eq] at hcell; exact hcell
      have dwTitle : decide (([37, 37, 66, 101, 103, 105, 110, 58, 32] : List UInt8) = [37, 37, 84, 105, 116, 108, 101, 58, 32]) = false := by decide
      have dwPages : decide (([37, 37, 66, 101, 103, 105, 110, 58, 32] : List UInt8) = [37, 37, 80, 97, 103, 101, 115, 58, 32]) = false := by decide
      have dwInclude : decide (([37, 37, 66, 101, 103, 105, 110, 58, 32] : List UInt8) = [37, 37, 73, 110, 99, 108, 117, 100, 101, 58, 32]) = false := by decide
      have dwPage : decide (([37, 37, 66, 101, 103, 105, 110, 58, 32] : List UInt8) = [37, 37, 80, 97, 103, 101, 58, 32]) = false := by decide
      refine W_region (by simp only [simq, Int.reduceEq, Nat.reduceEqDiff, e15, h17, hb, hcell]; rfl) ?_
      show W E _ _ _ _
      cases hB : wBegin.isPrefixOf l with
      | false =>
        have hpx : (([37, 37, 66, 101, 103, 105, 110, 58, 32] : List UInt8)).isPrefixOf l = false := hB
        refine W_seq (W_opsM (Wo_all (by simp only [simq, Int.reduceEq, Nat.reduceEqDiff, e0, pc_some P.cutP, pCutPrefix_run, nth0, nth1, hpx]; rfl) ?_))
        show W E _ _ _ _
        refine W_seq (W_seq (W_region (by simp only [simq, Int.reduceEq, Nat.reduceEqDiff]; rfl) (W_then (by simp only [simq, Int.reduceEq, Nat.reduceEqDiff]) (W_exit ?_))))
        show (if (2 : Nat) = 2 then _ else _)
        rw [if_pos rfl]
        exact ⟨⟨Lt, Lt1, by simp only [simq, Int.reduceEq, Nat.reduceEqDiff, e0], by simp only [simq, Int.reduceEq, Nat.reduceEqDiff, e15], ⟨fun _ => tr.1 (by decide), fun _ => tr.2.1 (by decide), fun _ => tr.2.2.1 (by decide), fun _ => by rw [hB]; rfl, fun h => absurd h (by decide)⟩⟩, by simp only [simq, Int.reduceEq, Nat.reduceEqDiff, h17], by simp only [simq, Int.reduceEq, Nat.reduceEqDiff, h16]⟩
      | true =>
        have hpx : (([37, 37, 66, 101, 103, 105, 110, 58, 32] : List UInt8)).isPrefixOf l = true := hB
        refine W_seq (W_opsM (Wo_all (by simp only [simq, Int.reduceEq, Nat.reduceEqDiff, e0, pc_some P.cutP, pCutPrefix_run, nth0, nth1, hpx]; rfl) ?_))
        show W E _ _ _ _
        refine W_seq (W_seq (W_region (by simp only [simq, Int.reduceEq, Nat.reduceEqDiff]; rfl) (W_else (by simp only [simq, Int.reduceEq, Nat.reduceEqDiff]) (W_skip ?_))))
        refine W_block (W_seq (W_seq (W_region (by simp only [simq, Int.reduceEq, Nat.reduceEqDiff, dwTitle, dwPages, dwInclude, dwPage]; rfl) ?_)))
        refine W_else (by simp only [simq, Int.reduceEq, Nat.reduceEqDiff]) ?_
        refine W_seq (W_opsM (Wo_all (by simp only [simq, Int.reduceEq, Nat.reduceEqDiff, dwTitle, dwPages, dwInclude, dwPage]; rfl) ?_))
        show W E _ _ _ _
        refine W_else (by simp only [simq, Int.reduceEq, Nat.reduceEqDiff]) ?_
        refine W_opsM (Wo_run (by simp only [simq, Int.reduceEq, Nat.reduceEqDiff, dwTitle, dwPages, dwInclude, dwPage]; rfl) (Wo_gt (by simp only [simq, Int.reduceEq, Nat.reduceEqDiff]) (Wo_call hC.page_isName.prim (args := [strOf (l.drop 9)]) (by simp only [simq, Int.reduceEq, Nat.reduceEqDiff]; try rfl) ((isName_run hC.page_isName (l.drop 9) (by simp; omega)).mono ?_))))
        rintro _ t2 ⟨rfl, l2⟩
        have LL : Low s.next s t2 := Lt.trans (l2.weak Lt.2.1)
        have LL1 : Low s1.next s1 t2 := Lt1.trans (l2.weak Lt1.2.1)
        cases hok : isNm (l.drop 9) with
        | true =>
          refine Wo_all (by simp only [simq, Int.reduceEq, Nat.reduceEqDiff]; rfl) ?_
          show W E _ _ _ _
          refine W_then (by simp only [simq, Int.reduceEq, Nat.reduceEqDiff]) (W_seq (W_region (by simp only [simq, Int.reduceEq, Nat.reduceEqDiff]; rfl) (W_ret ⟨rfl, _, res_tmp (res_tmp res_nil), ?_, LL⟩)))
          have hk : kd l = (5, l.drop 9) := by unfold kd px; rw [if_neg (nf (tr.1 (by decide))), if_neg (nf (tr.2.1 (by decide))), if_neg (nf (tr.2.2.1 (by decide))), if_pos (by rw [hB, hok]; rfl)]; rfl
          simp only [simq, Int.reduceEq, Nat.reduceEqDiff, tupled, hk]; rfl
        | false =>
          refine Wo_all (by simp only [simq, Int.reduceEq, Nat.reduceEqDiff]; rfl) ?_
          show W E _ _ _ _
          refine W_else (by simp only [simq, Int.reduceEq, Nat.reduceEqDiff]) (W_skip ⟨⟨LL, LL1, by simp only [simq, Int.reduceEq, Nat.reduceEqDiff, e0], by simp only [simq, Int.reduceEq, Nat.reduceEqDiff, e15], ⟨fun _ => tr.1 (by decide), fun _ => tr.2.1 (by decide), fun _ => tr.2.2.1 (by decide), fun _ => by rw [hB, hok]; rfl, fun h => absurd h (by decide)⟩⟩, by simp only [simq, Int.reduceEq, Nat.reduceEqDiff, h17], by simp only [simq, Int.reduceEq, Nat.reduceEqDiff, h16]⟩)
    · have hcell : t.cell ⟨s.next, 4, none⟩ = some (strOf [37, 37, 80, 97, 103, 101, 58, 32]) := by rw [add_eq] at hcell; exact hcell
      have dwTitle : decide (([37, 37, 80, 97, 103, 101, 58, 32] : List UInt8) = [37, 37, 84, 105, 116, 108, 101, 58, 32]) = false := by decide
      have dwPages : decide (([37, 37, 80, 97, 103, 101, 58, 32] : List UInt8) = [37, 37, 80, 97, 103, 101, 115, 58, 32]) = false := by decide
      have dwInclude : decide (([37, 37, 80, 97, 103, 101, 58, 32] : List UInt8) = [37, 37, 73, 110, 99, 108, 117, 100, 101, 58, 32]) = false := by decide
      have dwBegin : decide (([37, 37, 80, 97, 103, 101, 58, 32] : List UInt8) = [37, 37, 66, 101, 103, 105, 110, 58, 32]) = false := by decide
      refine W_region (by simp only [simq, Int.reduceEq, Nat.reduceEqDiff, e15, h17, hb, hcell]; rfl) ?_
      show W E _ _ _ _
      cases hG : wPage.isPrefixOf l with
      | false =>
        have hpx : (([37, 37, 80, 97, 103, 101, 58, 32] : List UInt8)).isPrefixOf l = false := hG
        refine W_seq (W_opsM (Wo_all (by simp only [simq, Int.reduceEq, Nat.reduceEqDiff, e0, pc_some P.cutP, pCutPrefix_run, nth0, nth1, hpx]; rfl) ?_))
        show W E _ _ _ _
        refine W_seq (W_seq (W_region (by simp only [simq, Int.reduceEq, Nat.reduceEqDiff]; rfl) (W_then (by simp only [simq, Int.reduceEq, Nat.reduceEqDiff]) (W_exit ?_))))
        show (if (2 : Nat) = 2 then _ else _)
        rw [if_pos rfl]
        exact ⟨⟨Lt, Lt1, by simp only [simq, Int.reduceEq, Nat.reduceEqDiff, e0], by simp only [simq, Int.reduceEq, Nat.reduceEqDiff, e15], ⟨fun _ => tr.1 (by decide), fun _ => tr.2.1 (by decide), fun _ => tr.2.2.1 (by decide), fun _ => tr.2.2.2.1 (by decide), fun _ => by rw [hG]; rfl⟩⟩, by simp only [simq, Int.reduceEq, Nat.reduceEqDiff, h17], by simp only [simq, Int.reduceEq, Nat.reduceEqDiff, h16]⟩
      | true =>
        have hpx : (([37, 37, 80, 97, 103, 101, 58, 32] : List UInt8)).isPrefixOf l = true := hG
        refine W_seq (W_opsM (Wo_all (by simp only [simq, Int.reduceEq, Nat.reduceEqDiff, e0, pc_some P.cutP, pCutPrefix_run, nth0, nth1, hpx]; rfl) ?_))
        show W E _ _ _ _
        refine W_seq (W_seq (W_region (by simp only [simq, Int.reduceEq, Nat.reduceEqDiff]; rfl) (W_else (by simp only [simq, Int.reduceEq, Nat.reduceEqDiff]) (W_skip ?_))))
        refine W_block (W_seq (W_seq (W_region (by simp only [simq, Int.reduceEq, Nat.reduceEqDiff, dwTitle, dwPages, dwInclude, dwBegin]; rfl) ?_)))
        refine W_else (by simp only [simq, Int.reduceEq, Nat.reduceEqDiff]) ?_
        refine W_seq (W_opsM (Wo_run (by simp only [simq, Int.reduceEq, Nat.reduceEqDiff, dwTitle, dwPages, dwInclude, dwBegin]; rfl) (Wo_gt (by simp only [simq, Int.reduceEq, Nat.reduceEqDiff]) (Wo_call hC.page_isNumber.prim (args := [strOf (l.drop 8)]) (by simp only [simq, Int.reduceEq, Nat.reduceEqDiff]; try rfl) ((isNumber_run P hC.page_isNumber Gt (l := l.drop 8) (by simp; omega)).mono ?_)))))
        rintro _ t2 ⟨rfl, l2⟩
        have LL : Low s.next s t2 := Lt.trans (l2.weak Lt.2.1)
        have LL1 : Low s1.next s1 t2 := Lt1.trans (l2.weak Lt1.2.1)
        cases hok : isNum (l.drop 8) with
        | true =>
          refine Wo_all (by simp only [simq, Int.reduceEq, Nat.reduceEqDiff]; rfl) ?_
          show W E _ _ _ _
          refine W_then (by simp only [simq, Int.reduceEq, Nat.reduceEqDiff]) (W_skip ?_)
          refine W_then (by simp only [simq, Int.reduceEq, Nat.reduceEqDiff]) (W_seq (W_region (by simp only [simq, Int.reduceEq, Nat.reduceEqDiff]; rfl) (W_ret ⟨rfl, _, res_tmp (res_tmp res_nil), ?_, LL⟩)))
          have hk : kd l = (7, l.drop 8) := by unfold kd px; rw [if_neg (nf (tr.1 (by decide))), if_neg (nf (tr.2.1 (by decide))), if_neg (nf (tr.2.2.1 (by decide))), if_neg (nf (tr.2.2.2.1 (by decide))), if_pos (by rw [hG, hok]; rfl)]; rfl
          simp only [simq, Int.reduceEq, Nat.reduceEqDiff, tupled, hk]; rfl
        | false =>
          refine Wo_all (by simp only [simq, Int.reduceEq, Nat.reduceEqDiff]; rfl) ?_
          show W E _ _ _ _
          refine W_else (by simp only [simq, Int.reduceEq, Nat.reduceEqDiff]) (W_opsM (Wo_all (by simp only [simq, Int.reduceEq, Nat.reduceEqDiff, dwTitle, dwPages, dwInclude, dwBegin]; rfl) ?_))
          show W E _ _ _ _
          refine W_else (by simp only [simq, Int.reduceEq, Nat.reduceEqDiff]) (W_skip ⟨⟨LL, LL1, by simp only [simq, Int.reduceEq, Nat.reduceEqDiff, e0], by simp only [simq, Int.reduceEq, Nat.reduceEqDiff, e15], ⟨fun _ => tr.1 (by decide), fun _ => tr.2.1 (by decide), fun _ => tr.2.2.1 (by decide), fun _ => tr.2.2.2.1 (by decide), fun _ => by rw [hG, hok]; rfl⟩⟩, by simp only [simq, Int.reduceEq, Nat.reduceEqDiff, h17], by simp only [simq, Int.reduceEq, Nat.reduceEqDiff, h16]⟩)
  · rintro fr t ⟨Lt, Lt1, e0, e15, tr⟩
    show W E _ _ _ _
    refine W_seq (W_region (by simp only [simq, Int.reduceEq, Nat.reduceEqDiff]; rfl) (W_ret ⟨rfl, _, res_tmp (res_tmp res_nil), ?_, Lt⟩))
    have hk : kd l = (0, []) := by
      unfold kd px
      rw [if_neg (nf (tr.1 (by decide))), if_neg (nf (tr.2.1 (by decide))), if_neg (nf (tr.2.2.1 (by decide))), if_neg (nf (tr.2.2.2.1 (by decide))), if_neg (nf (tr.2.2.2.2 (by decide))), he]; rfl
    simp only [simq, Int.reduceEq, Nat.reduceEqDiff, tupled, hk]; rfl
end
end
end Go.Ev
