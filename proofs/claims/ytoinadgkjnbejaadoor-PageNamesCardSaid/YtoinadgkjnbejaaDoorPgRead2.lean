/-
  The document's reader: the lines of a part.
-/
import Derived.Test.YtoinadgkjnbejaaDoorPgRead
set_option linter.unusedVariables false
set_option linter.unusedSimpArgs false
namespace Go.Ev
noncomputable section
open Go.Pg
theorem cmt_long {x : Ln} (h : 2 ≤ x.length) : cmt x = decide (x.take 2 = [37, 37]) := prefix_take (p := [37, 37]) h
theorem cmt_short {x : Ln} (h : x.length < 2) : cmt x = false := prefix_short (p := [37, 37]) h
section
variable {E : Env} {f : FuncId} {s t u : St} {hi a d c : Nat} {v : Value} {ls : List Ln} {k : Nat}
theorem Gr.on {lo : Nat} {w : Value} {xs : List Value} (h : Gr s lo 1 w xs) (B : But a s t) (ha : a < lo) : Gr t lo 1 w xs := h.but B ha
set_option maxHeartbeats 8000000 in
theorem readLines_run (hC : Codes E) (hf : Has E f Code._tithing_tithingref14_reader_lines) (R : Rdr s hi a v ls k) : Cv E f [ptr a 0] s fun r t => But a s t ∧ (bodyR false (ls.drop k) = none → r = .tuple ⟨[.slice none 0 0, .bool false]⟩) ∧ ∀ x, bodyR false (ls.drop k) = some x → ∃ w j, r = .tuple ⟨[w, .bool true]⟩ ∧ Gr t s.next 1 w (x.1.map strOf) ∧ Rdr t hi a v ls j ∧ ls.drop j = x.2 := by
  refine Cv_of hf.code ?_
  have h0 : (Tr.ofList (.e : Fr) 0 [ptr a 0]).get 0 = some (ptr a 0) := rfl
  generalize (Tr.ofList (.e : Fr) 0 [ptr a 0]) = fr0 at h0
  unfold Code._tithing_tithingref14_reader_lines
  refine W_seq (W_region (by simp only [simq, Int.reduceEq, Nat.reduceEqDiff]; rfl) ?_)
  refine W_seq (W_region (by simp only [simq, Int.reduceEq, Nat.reduceEqDiff]; rfl) ?_)
  refine W_seq (W_region (by simp only [simq, Int.reduceEq, Nat.reduceEqDiff]; rfl) ?_)
  refine W_block ?_
  refine W_inv (fun m fr t => ∃ j b acc w, m = ls.length - j ∧ Rdr t hi a v ls j ∧ Gr t s.next 1 w (acc.map strOf) ∧ But a s t ∧ acc.length ≤ j ∧ bodyR false (ls.drop k) = (bodyR b (ls.drop j)).map (fun x => (acc ++ x.1, x.2)) ∧ fr.get 0 = some (ptr a 0) ∧ fr.get 4 = some w ∧ fr.get 5 = some (.bool b)) ?_ (ls.length - k) _ s ⟨k, false, [], .slice none 0 0, rfl, R, .nil, But.refl _ _, Nat.zero_le _, by simp, by simp only [simq, Int.reduceEq, Nat.reduceEqDiff, h0], by simp only [simq, Int.reduceEq, Nat.reduceEqDiff], by simp only [simq, Int.reduceEq, Nat.reduceEqDiff]⟩
  rintro m fr t ⟨j, b, acc, w, rfl, Rt, gw, B, hacc, hbo, k0, k4, k5⟩
  unfold Code._tithing_tithingref14_reader_lines_l0
  have hjl := Rt.kle
  have hfew := Rt.few
  have halt := R.lt
  have hage := R.ge
  refine W_block (W_seq (W_opsM (Wo_run (by simp only [simq, Int.reduceEq, Nat.reduceEqDiff, k0]; rfl) (Wo_call hC._tithing_tithingref14_reader_next.prim (args := [ptr a 0]) (by simp only [simq, Int.reduceEq, Nat.reduceEqDiff]; try rfl) ((next_run hC hC._tithing_tithingref14_reader_next Rt).mono ?_)))))
  rintro _ _ ⟨hs, rfl⟩
  rw [hs]; clear hs
  refine Wo_all (by simp only [simq, Int.reduceEq, Nat.reduceEqDiff, nth0, nth1, nth2]; rfl) ?_
  show W E _ _ _ _
  obtain ⟨p, c, rfl⟩ := Rt.slice
  have cell0 : t.cell ⟨a, 0, none⟩ = some (.slice p ls.length c) := Rt.row.cell 0
  have cell1 : t.cell ⟨a, 1, none⟩ = some (.int .i64 (j : Nat)) := Rt.row.cell 1
  have hnone : ¬ j < ls.length → (nx ls j).1 = [] ∧ (nx ls j).2.1 = 9 ∧ bodyR b (ls.drop j) = none := fun h => by
    rw [nx_none h, List.drop_eq_nil_of_le (by omega), bodyR]; exact ⟨rfl, rfl, rfl⟩
  have hsome : j < ls.length → (nx ls j).2.1 = (kd (nx ls j).1).1 ∧ ls.drop j = (nx ls j).1 :: ls.drop (j + 1) := fun h => by
    rw [nx_some h]; exact ⟨rfl, List.drop_eq_getElem_cons h⟩
  generalize hX : (nx ls j).1 = X at *
  generalize hK : (nx ls j).2.1 = K at *
  refine W_seq (W.mono (Q := fun e fr' t' => e = .normal ∧ t' = t ∧ fr'.get 9 = some (.bool (cmt X)) ∧ fr'.get 0 = some (ptr a 0) ∧ fr'.get 4 = some w ∧ fr'.get 5 = some (.bool b) ∧ fr'.get 6 = some (strOf X) ∧ fr'.get 7 = some (.int .i64 (K : Nat))) ?_ ?_)
  · by_cases h2 : 2 ≤ X.length
    · have d2 : decide ((2 : Int) ≤ ((X.length : Nat) : Int)) = true := by simp; omega
      have b2 : bound (some (.int .i64 2)) X.length X.length = some 2 := bound_num (n := 2) h2
      have e2 := cmt_long h2
      cases dc : decide (X.take 2 = [37, 37]) with
      | true => exact W_region (by simp only [simq, Int.reduceEq, Nat.reduceEqDiff, lenL_eq, Int.ofNat_eq_natCast, d2, b2, bound_end, takeL_eq, dropL_eq, Nat.sub_zero, List.drop_zero, dc]; rfl) ⟨rfl, rfl, by simp only [simq, Int.reduceEq, Nat.reduceEqDiff, e2, dc], by simp only [simq, Int.reduceEq, Nat.reduceEqDiff, k0], by simp only [simq, Int.reduceEq, Nat.reduceEqDiff, k4], by simp only [simq, Int.reduceEq, Nat.reduceEqDiff, k5], by simp only [simq, Int.reduceEq, Nat.reduceEqDiff], by simp only [simq, Int.reduceEq, Nat.reduceEqDiff]⟩
      | false => exact W_region (by simp only [simq, Int.reduceEq, Nat.reduceEqDiff, lenL_eq, Int.ofNat_eq_natCast, d2, b2, bound_end, takeL_eq, dropL_eq, Nat.sub_zero, List.drop_zero, dc]; rfl) ⟨rfl, rfl, by simp only [simq, Int.reduceEq, Nat.reduceEqDiff, e2, dc], by simp only [simq, Int.reduceEq, Nat.reduceEqDiff, k0], by simp only [simq, Int.reduceEq, Nat.reduceEqDiff, k4], by simp only [simq, Int.reduceEq, Nat.reduceEqDiff, k5], by simp only [simq, Int.reduceEq, Nat.reduceEqDiff], by simp only [simq, Int.reduceEq, Nat.reduceEqDiff]⟩
    · have d2 : decide ((2 : Int) ≤ ((X.length : Nat) : Int)) = false := by simp; omega
      exact W_region (by simp only [simq, Int.reduceEq, Nat.reduceEqDiff, lenL_eq, Int.ofNat_eq_natCast, d2]; rfl) ⟨rfl, rfl, by simp only [simq, Int.reduceEq, Nat.reduceEqDiff, cmt_short (Nat.lt_of_not_le h2)], by simp only [simq, Int.reduceEq, Nat.reduceEqDiff, k0], by simp only [simq, Int.reduceEq, Nat.reduceEqDiff, k4], by simp only [simq, Int.reduceEq, Nat.reduceEqDiff, k5], by simp only [simq, Int.reduceEq, Nat.reduceEqDiff], by simp only [simq, Int.reduceEq, Nat.reduceEqDiff]⟩
  rintro _ fr1 t1 ⟨rfl, ht, q9, q0, q4, q5, q6, q7⟩
  rw [ht]; clear ht
  show W E _ fr1 _ _
  refine W_seq (W.mono (Q := fun e fr' t' => t' = t ∧ ((e = .ret ∧ bodyR b (ls.drop j) = none ∧ fr'.get 2 = some (.slice none 0 0) ∧ fr'.get 3 = some (.bool false)) ∨ (e = .ret ∧ bodyR b (ls.drop j) = some ([], ls.drop j) ∧ fr'.get 2 = some w ∧ fr'.get 3 = some (.bool true)) ∨ (e = .normal ∧ j < ls.length ∧ ∃ b', bodyR b (ls.drop j) = (bodyR b' (ls.drop (j + 1))).map (fun x => (X :: x.1, x.2)) ∧ fr'.get 5 = some (.bool b') ∧ fr'.get 0 = some (ptr a 0) ∧ fr'.get 4 = some w ∧ fr'.get 6 = some (strOf X)))) ?_ ?_)
  · refine W_block ?_
    cases b with
    | true =>
      by_cases z6 : K = 6
      · have hlt : j < ls.length := Classical.byContradiction fun h => by have := (hnone h).2.1; omega
        obtain ⟨e1, e2⟩ := hsome hlt
        have d6 : decide (((K : Nat) : Int) = 6) = true := by simp; omega
        refine W_seq (W_region (by simp only [simq, Int.reduceEq, Nat.reduceEqDiff, q5, q7, d6]; rfl) (W_then (by simp only [simq, Int.reduceEq, Nat.reduceEqDiff]) (W_region (by simp only [simq, Int.reduceEq, Nat.reduceEqDiff]; rfl) ⟨rfl, .inr (.inr ⟨rfl, hlt, false, ?_, by simp only [simq, Int.reduceEq, Nat.reduceEqDiff], by simp only [simq, Int.reduceEq, Nat.reduceEqDiff, q0], by simp only [simq, Int.reduceEq, Nat.reduceEqDiff, q4], by simp only [simq, Int.reduceEq, Nat.reduceEqDiff, q6]⟩)⟩)))
        rw [e2, bodyR, if_pos (by rw [← e1, z6]; rfl)]
      have d6 : decide (((K : Nat) : Int) = 6) = false := by simp; omega
      refine W_seq (W_region (by simp only [simq, Int.reduceEq, Nat.reduceEqDiff, q5, q7, d6]; rfl) (W_else (by simp only [simq, Int.reduceEq, Nat.reduceEqDiff]) ?_))
      cases hc : cmt X with
      | true =>
        rw [hc] at q9
        have hlt : j < ls.length := Classical.byContradiction fun h => by
          have := (hnone h).1
          rw [this] at hc; cases hc
        obtain ⟨e1, e2⟩ := hsome hlt
        refine W_seq (W_region (by simp only [simq, Int.reduceEq, Nat.reduceEqDiff, q5, q9]; rfl) (W_then (by simp only [simq, Int.reduceEq, Nat.reduceEqDiff]) (W_seq (W_region (by simp only [simq, Int.reduceEq, Nat.reduceEqDiff]; rfl) (W_ret ⟨rfl, .inl ⟨rfl, ?_, by simp only [simq, Int.reduceEq, Nat.reduceEqDiff], by simp only [simq, Int.reduceEq, Nat.reduceEqDiff]⟩⟩)))))
        rw [e2, bodyR, if_neg (by rw [← e1]; simp [z6]), if_pos (by rw [hc]; rfl)]
      | false =>
        rw [hc] at q9
        refine W_seq (W_region (by simp only [simq, Int.reduceEq, Nat.reduceEqDiff, q5, q9]; rfl) (W_else (by simp only [simq, Int.reduceEq, Nat.reduceEqDiff]) ?_))
        refine W_seq (W_region (by simp only [simq, Int.reduceEq, Nat.reduceEqDiff, q5]; rfl) (W_then (by simp only [simq, Int.reduceEq, Nat.reduceEqDiff]) ?_))
        by_cases hlt : j < ls.length
        · obtain ⟨e1, e2⟩ := hsome hlt
          have dl : decide (((ls.length : Nat) : Int) ≤ ((j : Nat) : Int)) = false := by simp; omega
          refine W_seq (W_region (by simp only [simq, Int.reduceEq, Nat.reduceEqDiff, q0, cell0, cell1, nilOk_ptr, Int.ofNat_eq_natCast, dl]; rfl) (W_else (by simp only [simq, Int.reduceEq, Nat.reduceEqDiff]) (W_skip ⟨rfl, .inr (.inr ⟨rfl, hlt, true, ?_, by simp only [simq, Int.reduceEq, Nat.reduceEqDiff, q5], by simp only [simq, Int.reduceEq, Nat.reduceEqDiff, q0], by simp only [simq, Int.reduceEq, Nat.reduceEqDiff, q4], by simp only [simq, Int.reduceEq, Nat.reduceEqDiff, q6]⟩)⟩)))
          rw [e2, bodyR, if_neg (by rw [← e1]; simp [z6]), if_neg (by rw [hc]; simp), if_pos rfl]
        · have dl : decide (((ls.length : Nat) : Int) ≤ ((j : Nat) : Int)) = true := by simp; omega
          exact W_seq (W_region (by simp only [simq, Int.reduceEq, Nat.reduceEqDiff, q0, cell0, cell1, nilOk_ptr, Int.ofNat_eq_natCast, dl]; rfl) (W_then (by simp only [simq, Int.reduceEq, Nat.reduceEqDiff]) (W_seq (W_region (by simp only [simq, Int.reduceEq, Nat.reduceEqDiff]; rfl) (W_ret ⟨rfl, .inl ⟨rfl, (hnone hlt).2.2, by simp only [simq, Int.reduceEq, Nat.reduceEqDiff], by simp only [simq, Int.reduceEq, Nat.reduceEqDiff]⟩⟩)))))
    | false =>
      refine W_seq (W_region (by simp only [simq, Int.reduceEq, Nat.reduceEqDiff, q5]; rfl) (W_else (by simp only [simq, Int.reduceEq, Nat.reduceEqDiff]) ?_))
      refine W_seq (W_region (by simp only [simq, Int.reduceEq, Nat.reduceEqDiff, q5]; rfl) (W_else (by simp only [simq, Int.reduceEq, Nat.reduceEqDiff]) ?_))
      refine W_seq (W_region (by simp only [simq, Int.reduceEq, Nat.reduceEqDiff, q5]; rfl) (W_else (by simp only [simq, Int.reduceEq, Nat.reduceEqDiff]) ?_))
      by_cases z7 : K = 7
      · have hlt : j < ls.length := Classical.byContradiction fun h => by have := (hnone h).2.1; omega
        obtain ⟨e1, e2⟩ := hsome hlt
        have d7 : decide (((K : Nat) : Int) = 7) = true := by simp; omega
        refine W_seq (W_region (by simp only [simq, Int.reduceEq, Nat.reduceEqDiff, q7, d7]; rfl) (W_then (by simp only [simq, Int.reduceEq, Nat.reduceEqDiff]) (W_seq (W_region (by simp only [simq, Int.reduceEq, Nat.reduceEqDiff, q4]; rfl) (W_ret ⟨rfl, .inr (.inl ⟨rfl, ?_, by simp only [simq, Int.reduceEq, Nat.reduceEqDiff], by simp only [simq, Int.reduceEq, Nat.reduceEqDiff]⟩)⟩)))))
        rw [e2, bodyR, if_neg (by simp), if_neg (by simp), if_neg (by simp), if_pos (by rw [← e1, z7]; rfl)]
      have d7 : decide (((K : Nat) : Int) = 7) = false := by simp; omega
      by_cases z8 : K = 8
      · have hlt : j < ls.length := Classical.byContradiction fun h => by have := (hnone h).2.1; omega
        obtain ⟨e1, e2⟩ := hsome hlt
        have d8 : decide (((K : Nat) : Int) = 8) = true := by simp; omega
        refine W_seq (W_region (by simp only [simq, Int.reduceEq, Nat.reduceEqDiff, q7, d7, d8]; rfl) (W_then (by simp only [simq, Int.reduceEq, Nat.reduceEqDiff]) (W_seq (W_region (by simp only [simq, Int.reduceEq, Nat.reduceEqDiff, q4]; rfl) (W_ret ⟨rfl, .inr (.inl ⟨rfl, ?_, by simp only [simq, Int.reduceEq, Nat.reduceEqDiff], by simp only [simq, Int.reduceEq, Nat.reduceEqDiff]⟩)⟩)))))
        rw [e2, bodyR, if_neg (by simp), if_neg (by simp), if_neg (by simp), if_pos (by rw [← e1, z8]; rfl)]
      have d8 : decide (((K : Nat) : Int) = 8) = false := by simp; omega
      refine W_seq (W_region (by simp only [simq, Int.reduceEq, Nat.reduceEqDiff, q7, d7, d8]; rfl) (W_else (by simp only [simq, Int.reduceEq, Nat.reduceEqDiff]) ?_))
      by_cases z5 : K = 5
      · have hlt : j < ls.length := Classical.byContradiction fun h => by have := (hnone h).2.1; omega
        obtain ⟨e1, e2⟩ := hsome hlt
        have d5 : decide (((K : Nat) : Int) = 5) = true := by simp; omega
        refine W_seq (W_region (by simp only [simq, Int.reduceEq, Nat.reduceEqDiff, q7, d5]; rfl) (W_then (by simp only [simq, Int.reduceEq, Nat.reduceEqDiff]) (W_region (by simp only [simq, Int.reduceEq, Nat.reduceEqDiff]; rfl) ⟨rfl, .inr (.inr ⟨rfl, hlt, true, ?_, by simp only [simq, Int.reduceEq, Nat.reduceEqDiff], by simp only [simq, Int.reduceEq, Nat.reduceEqDiff, q0], by simp only [simq, Int.reduceEq, Nat.reduceEqDiff, q4], by simp only [simq, Int.reduceEq, Nat.reduceEqDiff, q6]⟩)⟩)))
        rw [e2, bodyR, if_neg (by simp), if_neg (by simp), if_neg (by simp), if_neg (by rw [← e1, z5]; simp), if_pos (by rw [← e1, z5]; rfl)]
      have d5 : decide (((K : Nat) : Int) = 5) = false := by simp; omega
      refine W_seq (W_region (by simp only [simq, Int.reduceEq, Nat.reduceEqDiff, q7, d5]; rfl) (W_else (by simp only [simq, Int.reduceEq, Nat.reduceEqDiff]) ?_))
      by_cases z04 : K = 0 ∨ K = 4
      · have hlt : j < ls.length := Classical.byContradiction fun h => by have := (hnone h).2.1; omega
        obtain ⟨e1, e2⟩ := hsome hlt
        have hb : bodyR false (ls.drop j) = (bodyR false (ls.drop (j + 1))).map (fun x => (X :: x.1, x.2)) := by
          rw [e2, bodyR, if_neg (by simp), if_neg (by simp), if_neg (by simp), if_neg (by rw [← e1]; simp; omega), if_neg (by rw [← e1]; simp; omega), if_neg (by rw [← e1]; simp; omega)]
        rcases z04 with z | z
        · have dz : decide (((K : Nat) : Int) = 0) = true := by simp; omega
          exact W_seq (W_region (by simp only [simq, Int.reduceEq, Nat.reduceEqDiff, q7, dz]; rfl) (W_else (by simp only [simq, Int.reduceEq, Nat.reduceEqDiff]) (W_skip ⟨rfl, .inr (.inr ⟨rfl, hlt, false, hb, by simp only [simq, Int.reduceEq, Nat.reduceEqDiff, q5], by simp only [simq, Int.reduceEq, Nat.reduceEqDiff, q0], by simp only [simq, Int.reduceEq, Nat.reduceEqDiff, q4], by simp only [simq, Int.reduceEq, Nat.reduceEqDiff, q6]⟩)⟩)))
        · have dz : decide (((K : Nat) : Int) = 0) = false := by simp; omega
          have d4 : decide (((K : Nat) : Int) = 4) = true := by simp; omega
          exact W_seq (W_region (by simp only [simq, Int.reduceEq, Nat.reduceEqDiff, q7, dz, d4]; rfl) (W_else (by simp only [simq, Int.reduceEq, Nat.reduceEqDiff]) (W_skip ⟨rfl, .inr (.inr ⟨rfl, hlt, false, hb, by simp only [simq, Int.reduceEq, Nat.reduceEqDiff, q5], by simp only [simq, Int.reduceEq, Nat.reduceEqDiff, q0], by simp only [simq, Int.reduceEq, Nat.reduceEqDiff, q4], by simp only [simq, Int.reduceEq, Nat.reduceEqDiff, q6]⟩)⟩)))
      · have dz : decide (((K : Nat) : Int) = 0) = false := by simp; omega
        have d4 : decide (((K : Nat) : Int) = 4) = false := by simp; omega
        refine W_seq (W_region (by simp only [simq, Int.reduceEq, Nat.reduceEqDiff, q7, dz, d4]; rfl) (W_then (by simp only [simq, Int.reduceEq, Nat.reduceEqDiff]) (W_seq (W_region (by simp only [simq, Int.reduceEq, Nat.reduceEqDiff]; rfl) (W_ret ⟨rfl, .inl ⟨rfl, ?_, by simp only [simq, Int.reduceEq, Nat.reduceEqDiff], by simp only [simq, Int.reduceEq, Nat.reduceEqDiff]⟩⟩)))))
        by_cases hlt : j < ls.length
        · obtain ⟨e1, e2⟩ := hsome hlt
          rw [e2, bodyR, if_neg (by simp), if_neg (by simp), if_neg (by simp), if_neg (by rw [← e1]; simp; omega), if_neg (by rw [← e1]; simp; omega), if_pos (by rw [← e1]; simp; omega)]
        · exact (hnone hlt).2.2
  rintro e fr2 t2 ⟨ht, ⟨rfl, hn, r2, r3⟩ | ⟨rfl, hn, r2, r3⟩ | ⟨rfl, hlt, b', hn, r5, r0, r4, r6⟩⟩
  · rw [ht]; clear ht
    rw [hn] at hbo
    refine ⟨rfl, _, res_tmp (res_tmp res_nil), B, fun _ => ?_, fun x hx => ?_⟩
    · simp only [simq, Int.reduceEq, Nat.reduceEqDiff, tupled, r2, r3]
    · rw [hbo] at hx; cases hx
  · rw [ht]; clear ht
    rw [hn] at hbo
    refine ⟨rfl, _, res_tmp (res_tmp res_nil), B, fun hx => ?_, fun x hx => ?_⟩
    · rw [hbo] at hx; cases hx
    · rw [hbo] at hx
      have hx := Option.some.inj hx
      subst hx
      refine ⟨w, j, by simp only [simq, Int.reduceEq, Nat.reduceEqDiff, tupled, r2, r3], ?_, Rt, rfl⟩
      simp only [List.append_nil]
      exact gw
  rw [ht]; clear ht
  show W E _ fr2 _ _
  have B1 := B.1
  refine W_seq (W_ops (Wo_run (l := [_, _]) (by simp only [simq, Int.reduceEq, Nat.reduceEqDiff, r4, r6]; rfl) ?_))
  refine Wo_buildSlice (size := 1) (lo := t.next) (n := 1) (cs := [strOf X]) (by simp only [simq, Int.reduceEq, Nat.reduceEqDiff]; rfl) rfl (Nat.le_add_right _ _) (by rw [next_skip]; omega) (by decide) ?_
  rintro s2 ⟨D2, -⟩ l2 hs2
  have L2 : Low t.next t s2 := ((Low.self t).skip 5).trans l2
  refine Wo_append (lo := s.next) (by simp only [simq, Int.reduceEq, Nat.reduceEqDiff]) (by simp only [simq, Int.reduceEq, Nat.reduceEqDiff]) (gw.low L2 (Nat.le_refl _)) (Nat.le_trans B1 L2.2.1) D2.feed (by decide) (by simp [room]; omega) ?_
  rintro w' s3 g3 L3 -
  refine Wo_all (by simp only [simq, Int.reduceEq, Nat.reduceEqDiff]; rfl) ?_
  show W E _ _ _ _
  have B3 : But a s s3 := (B.trans (L2.but a)).lows L3 (Nat.le_refl _)
  have R3 : Rdr s3 hi a (.slice p ls.length c) ls j := (Rt.low L2 Rt.lt).low L3 halt
  obtain ⟨s5, p5, R5, B5, n5, w5⟩ := R3.step hlt
  have cell1' : s3.cell ⟨a, 1, none⟩ = some (.int .i64 (j : Nat)) := R3.row.cell 1
  refine W_region (by simp only [simq, Int.reduceEq, Nat.reduceEqDiff, r0, cell1', nilOk_ptr, w5, p5]; rfl) ?_
  refine ⟨ls.length - (j + 1), by omega, j + 1, b', acc ++ [X], w', rfl, R5, ?_, B3.trans B5, by simp; omega, ?_, by simp only [simq, Int.reduceEq, Nat.reduceEqDiff, r0], by simp only [simq, Int.reduceEq, Nat.reduceEqDiff], by simp only [simq, Int.reduceEq, Nat.reduceEqDiff, r5]⟩
  · rw [List.map_append]
    exact g3.but B5 halt
  · rw [hbo, hn, Option.map_map]
    congr 1
    funext z
    simp
end
end
end Go.Ev
