/-
  Names and numbers, the kinds of lines.
-/
import Derived.Test.YtoinadgkjnbejaaDoorPgSmall
set_option linter.unusedVariables false
set_option linter.unusedSimpArgs false
namespace Go.Ev
noncomputable section
open Go.Pg
section
variable {E : Env} {f : FuncId} {s : St}
theorem digs_false {c : UInt8} {r : Ln} {n : Nat} (h : (decide ((c.toNat : Int) < 48) || decide ((57 : Int) < c.toNat)) = true) : digs (c :: r) n = none := by
  have : c < 48 ∨ 57 < c := by
    rw [UInt8.lt_iff_toNat_lt, UInt8.lt_iff_toNat_lt]
    have e1 : (48 : UInt8).toNat = 48 := rfl
    have e2 : (57 : UInt8).toNat = 57 := rfl
    rw [Bool.or_eq_true, decide_eq_true_eq, decide_eq_true_eq] at h
    omega
  rw [digs, if_pos this]
theorem digs_true {c : UInt8} {r : Ln} {n : Nat} (h : (decide ((c.toNat : Int) < 48) || decide ((57 : Int) < c.toNat)) = false) : digs (c :: r) n = digs r (10 * n + (c.toNat - 48)) ∧ 48 ≤ c.toNat ∧ c.toNat ≤ 57 := by
  rw [Bool.or_eq_false_iff, decide_eq_false_iff_not, decide_eq_false_iff_not] at h
  have : ¬ (c < 48 ∨ 57 < c) := by
    rw [UInt8.lt_iff_toNat_lt, UInt8.lt_iff_toNat_lt]
    have e1 : (48 : UInt8).toNat = 48 := rfl
    have e2 : (57 : UInt8).toNat = 57 := rfl
    omega
  rw [digs, if_neg this]
  exact ⟨rfl, by omega, by omega⟩
def numZ (l : Ln) : Int := match Pg.num l with | some n => (n : Int) | none => -1
theorem numZ_pos (l : Ln) : decide ((0 : Int) ≤ numZ l) = isNum l := by
  unfold numZ isNum
  cases Pg.num l with
  | none => rfl
  | some n => simp
set_option maxHeartbeats 8000000 in
theorem number_run (hf : Has E f Code.tithingref14_number) (l : Ln) : Cv E f [strOf l] s fun r t => t = s ∧ r = .int .i64 (numZ l) := by
  refine Cv_of hf.code ?_
  have h0 : (Tr.ofList (.e : Fr) 0 [strOf l]).get 0 = some (strOf l) := rfl
  generalize (Tr.ofList (.e : Fr) 0 [strOf l]) = fr0 at h0
  unfold Code.tithingref14_number
  refine W_seq (W_region (by simp only [simq, Int.reduceEq, Nat.reduceEqDiff]; rfl) ?_)
  have c22 : ∃ q, (∀ (c : Code.tithingref14_number = Code.tithingref14_number), True) ∧ (q = true ↔ (l.length < 1 ∨ 3 < l.length ∨ (1 < l.length ∧ l[0]? = some 48))) := ⟨decide (l.length < 1 ∨ 3 < l.length ∨ (1 < l.length ∧ l[0]? = some 48)), fun _ => trivial, by simp⟩
  obtain ⟨q, -, hq⟩ := c22
  refine W_seq (W.mono (Q := fun e fr' t' => t' = s ∧ ((e = .ret ∧ q = true ∧ fr'.get 2 = some (.int .i64 (-1))) ∨ (e = .normal ∧ q = false ∧ fr'.get 0 = some (strOf l)))) ?_ ?_)
  · by_cases a1 : l.length < 1
    · have d1 : decide (((l.length : Nat) : Int) < 1) = true := by simp; omega
      refine W_seq (W_region (by simp only [simq, Int.reduceEq, Nat.reduceEqDiff, h0, lenL_eq, Int.ofNat_eq_natCast, d1]; rfl) ?_)
      exact W_then (by simp only [simq, Int.reduceEq, Nat.reduceEqDiff]) (W_seq (W_region (by simp only [simq, Int.reduceEq, Nat.reduceEqDiff]; rfl) (W_ret ⟨rfl, .inl ⟨rfl, hq.2 (.inl a1), by simp only [simq, Int.reduceEq, Nat.reduceEqDiff]⟩⟩)))
    have d1 : decide (((l.length : Nat) : Int) < 1) = false := by simp; omega
    by_cases a2 : 3 < l.length
    · have d2 : decide ((3 : Int) < ((l.length : Nat) : Int)) = true := by simp; omega
      refine W_seq (W_region (by simp only [simq, Int.reduceEq, Nat.reduceEqDiff, h0, lenL_eq, Int.ofNat_eq_natCast, d1, d2]; rfl) ?_)
      exact W_then (by simp only [simq, Int.reduceEq, Nat.reduceEqDiff]) (W_seq (W_region (by simp only [simq, Int.reduceEq, Nat.reduceEqDiff]; rfl) (W_ret ⟨rfl, .inl ⟨rfl, hq.2 (.inr (.inl a2)), by simp only [simq, Int.reduceEq, Nat.reduceEqDiff]⟩⟩)))
    have d2 : decide ((3 : Int) < ((l.length : Nat) : Int)) = false := by simp; omega
    by_cases a3 : 1 < l.length
    · have d3 : decide ((1 : Int) < ((l.length : Nat) : Int)) = true := by simp; omega
      have hc := idx_str (l := l) (i := 0) (by omega)
      have hc0 : l[0]? = some l[0] := List.getElem?_eq_getElem (by omega)
      generalize l[0] = c at hc hc0
      have hz : asNat (.int .i64 0) = some 0 := rfl
      cases d4 : decide ((c.toNat : Int) = 48) with
      | true =>
        refine W_seq (W_region (by simp only [simq, Int.reduceEq, Nat.reduceEqDiff, h0, lenL_eq, Int.ofNat_eq_natCast, d1, d2, d3, hz, hc, ofByte_int, d4]; rfl) ?_)
        have : c = 48 := by
          rw [decide_eq_true_eq] at d4
          apply UInt8.toNat_inj.1
          have : (48 : UInt8).toNat = 48 := rfl
          omega
        exact W_then (by simp only [simq, Int.reduceEq, Nat.reduceEqDiff]) (W_seq (W_region (by simp only [simq, Int.reduceEq, Nat.reduceEqDiff]; rfl) (W_ret ⟨rfl, .inl ⟨rfl, hq.2 (.inr (.inr ⟨a3, by rw [hc0, this]⟩)), by simp only [simq, Int.reduceEq, Nat.reduceEqDiff]⟩⟩)))
      | false =>
        refine W_seq (W_region (by simp only [simq, Int.reduceEq, Nat.reduceEqDiff, h0, lenL_eq, Int.ofNat_eq_natCast, d1, d2, d3, hz, hc, ofByte_int, d4]; rfl) ?_)
        refine W_else (by simp only [simq, Int.reduceEq, Nat.reduceEqDiff]) (W_skip ⟨rfl, .inr ⟨rfl, ?_, by simp only [simq, Int.reduceEq, Nat.reduceEqDiff, h0]⟩⟩)
        cases q with
        | false => rfl
        | true =>
          rcases hq.1 rfl with h | h | ⟨_, h⟩
          · omega
          · omega
          · rw [hc0] at h
            rw [Option.some.inj h] at d4
            cases d4
    · have d3 : decide ((1 : Int) < ((l.length : Nat) : Int)) = false := by simp; omega
      refine W_seq (W_region (by simp only [simq, Int.reduceEq, Nat.reduceEqDiff, h0, lenL_eq, Int.ofNat_eq_natCast, d1, d2, d3]; rfl) ?_)
      refine W_else (by simp only [simq, Int.reduceEq, Nat.reduceEqDiff]) (W_skip ⟨rfl, .inr ⟨rfl, ?_, by simp only [simq, Int.reduceEq, Nat.reduceEqDiff, h0]⟩⟩)
      cases q with
      | false => rfl
      | true => have := hq.1 rfl; omega
  rintro e fr1 t1 ⟨ht, ⟨rfl, hqt, k2⟩ | ⟨rfl, hqf, k0⟩⟩
  · rw [ht]
    refine ⟨rfl, _, res_tmp res_nil, rfl, ?_⟩
    simp only [simq, Int.reduceEq, Nat.reduceEqDiff, tupled, k2]
    unfold numZ Pg.num
    rw [if_pos (hq.1 hqt)]
  · rw [ht]; clear ht
    have hnq : ¬ (l.length < 1 ∨ 3 < l.length ∨ (1 < l.length ∧ l[0]? = some 48)) := fun h => by rw [hq.2 h] at hqf; cases hqf
    have hl : l.length ≤ 3 := by omega
    have hnum : Pg.num l = digs l 0 := by unfold Pg.num; rw [if_neg hnq]
    show W E _ fr1 _ _
    refine W_seq (W_region (by simp only [simq, Int.reduceEq, Nat.reduceEqDiff]; rfl) ?_)
    refine W_seq (W_seq (W_region (by simp only [simq, Int.reduceEq, Nat.reduceEqDiff]; rfl) ?_))
    refine W_block ?_
    refine W_inv (fun m fr t => t = s ∧ ∃ i n, m = l.length - i ∧ i ≤ l.length ∧ fr.get 0 = some (strOf l) ∧ fr.get 4 = some (.int .i64 (i : Nat)) ∧ fr.get 3 = some (.int .i64 (n : Nat)) ∧ n < 10 ^ i ∧ Pg.num l = digs (l.drop i) n) ?_ l.length _ s ⟨rfl, 0, 0, rfl, Nat.zero_le _, by simp only [simq, Int.reduceEq, Nat.reduceEqDiff, k0], by simp only [simq, Int.reduceEq, Nat.reduceEqDiff]; rfl, by simp only [simq, Int.reduceEq, Nat.reduceEqDiff]; rfl, by decide, by rw [hnum, List.drop_zero]⟩
    rintro m fr t ⟨rfl, i, n, rfl, hi, k0, k4, k3, hn, hd⟩
    unfold Code.tithingref14_number_l0
    by_cases hlt : i < l.length
    · have d0 : decide (((i : Nat) : Int) < ((l.length : Nat) : Int)) = true := by simp; omega
      refine W_seq (W_seq (W_region (by simp only [simq, Int.reduceEq, Nat.reduceEqDiff, k0, k4, lenL_eq, Int.ofNat_eq_natCast, d0]; rfl) (W_then (by simp only [simq, Int.reduceEq, Nat.reduceEqDiff]) (W_skip ?_))))
      have hc := idx_str hlt
      rw [List.drop_eq_getElem_cons hlt] at hd
      generalize l[i] = c at hc hd
      have bad : (decide ((c.toNat : Int) < 48) || decide ((57 : Int) < c.toNat)) = true → numZ l = -1 := fun h => by
        unfold numZ; rw [hd, digs_false h]
      cases d1 : decide ((c.toNat : Int) < 48) with
      | true =>
        refine W_seq (W_block (W_seq (W_seq (W_region (by simp only [simq, Int.reduceEq, Nat.reduceEqDiff, k0, k4, hc, ofByte_int, d1]; rfl) (W_then (by simp only [simq, Int.reduceEq, Nat.reduceEqDiff]) (W_seq (W_region (by simp only [simq, Int.reduceEq, Nat.reduceEqDiff]; rfl) (W_ret ⟨rfl, _, res_tmp res_nil, rfl, ?_⟩))))))))
        simp only [simq, Int.reduceEq, Nat.reduceEqDiff, tupled]
        rw [bad (by rw [d1]; rfl)]
      | false =>
      cases d2 : decide ((57 : Int) < c.toNat) with
      | true =>
        refine W_seq (W_block (W_seq (W_seq (W_region (by simp only [simq, Int.reduceEq, Nat.reduceEqDiff, k0, k4, hc, ofByte_int, d1, d2]; rfl) (W_then (by simp only [simq, Int.reduceEq, Nat.reduceEqDiff]) (W_seq (W_region (by simp only [simq, Int.reduceEq, Nat.reduceEqDiff]; rfl) (W_ret ⟨rfl, _, res_tmp res_nil, rfl, ?_⟩))))))))
        simp only [simq, Int.reduceEq, Nat.reduceEqDiff, tupled]
        rw [bad (by rw [d2, Bool.or_true])]
      | false =>
        obtain ⟨e1, e2, e3⟩ := digs_true (c := c) (r := l.drop (i + 1)) (n := n) (by rw [d1, d2]; rfl)
        have hn3 : n < 1000 := Nat.lt_of_lt_of_le hn (Nat.le_trans (Nat.pow_le_pow_right (by decide) (show i ≤ 3 by omega)) (by decide))
        have w1 : wr .i64 (10 * (n : Int)) = ((10 * n : Nat) : Int) := by rw [wr_i64 (by omega) (by omega)]; omega
        have w2 : wr .u8 ((c.toNat : Int) - 48) = ((c.toNat - 48 : Nat) : Int) := by
          have : (c.toNat : Int) - 48 = ((c.toNat - 48 : Nat) : Int) := by omega
          rw [this, wr_u8_nat, Nat.mod_eq_of_lt (by omega)]
        have w3 : wr .i64 ((c.toNat - 48 : Nat) : Int) = ((c.toNat - 48 : Nat) : Int) := wr_i64_nat (by omega)
        have w4 : wr .i64 (((10 * n : Nat) : Int) + ((c.toNat - 48 : Nat) : Int)) = ((10 * n + (c.toNat - 48) : Nat) : Int) := by rw [wr_i64 (by omega) (by omega)]; omega
        have w5 : wr .i64 ((i : Int) + 1) = ((i + 1 : Nat) : Int) := by rw [wr_i64 (by omega) (by omega)]; omega
        refine W_seq (W_block (W_seq (W_seq (W_region (by simp only [simq, Int.reduceEq, Nat.reduceEqDiff, k0, k4, hc, ofByte_int, d1, d2]; rfl) (W_else (by simp only [simq, Int.reduceEq, Nat.reduceEqDiff]) (W_skip ?_))))))
        refine W_region (by simp only [simq, Int.reduceEq, Nat.reduceEqDiff, k0, k3, k4, hc, ofByte_int, w1, w2, w3, w4]; rfl) ?_
        show W E _ _ _ _
        refine W_region (by simp only [simq, Int.reduceEq, Nat.reduceEqDiff, k4, w5]; rfl) ⟨l.length - (i + 1), by omega, rfl, i + 1, 10 * n + (c.toNat - 48), rfl, by omega, by simp only [simq, Int.reduceEq, Nat.reduceEqDiff, k0], by simp only [simq, Int.reduceEq, Nat.reduceEqDiff], by simp only [simq, Int.reduceEq, Nat.reduceEqDiff], ?_, by rw [hd, e1]⟩
        rw [Nat.pow_succ]; omega
    · have e : i = l.length := by omega
      subst e
      have d0 : decide (((l.length : Nat) : Int) < ((l.length : Nat) : Int)) = false := by simp
      refine W_seq (W_seq (W_region (by simp only [simq, Int.reduceEq, Nat.reduceEqDiff, k0, k4, lenL_eq, Int.ofNat_eq_natCast, d0]; rfl) (W_else (by simp only [simq, Int.reduceEq, Nat.reduceEqDiff]) (W_exit ?_))))
      show W E _ _ _ _
      refine W_seq (W_region (by simp only [simq, Int.reduceEq, Nat.reduceEqDiff, k3]; rfl) (W_ret ⟨rfl, _, res_tmp res_nil, rfl, ?_⟩))
      simp only [simq, Int.reduceEq, Nat.reduceEqDiff, tupled]
      rw [List.drop_length, digs] at hd
      unfold numZ
      rw [hd]
end
end
end Go.Ev
