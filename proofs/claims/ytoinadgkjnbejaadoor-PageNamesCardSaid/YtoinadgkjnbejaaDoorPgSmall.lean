/-
  Names, numbers and the kinds of lines: what the program and the document's answer say of them.
-/
import Derived.Test.YtoinadgkjnbejaaDoorPgCode
import Derived.Test.YtoinadgkjnbejaaDoorPgDoc
set_option linter.unusedVariables false
set_option linter.unusedSimpArgs false
namespace Go.Ev
noncomputable section
open Go.Pg
theorem bound_end (d m : Nat) : bound none d m = some d := rfl
theorem prefix_take {p s : Ln} (h : p.length ≤ s.length) : p.isPrefixOf s = decide (s.take p.length = p) := by
  rw [Bool.eq_iff_iff, List.isPrefixOf_iff_prefix, decide_eq_true_eq, List.prefix_iff_eq_take]
  exact ⟨fun e => e.symm, fun e => e.symm⟩
theorem prefix_short {p s : Ln} (h : s.length < p.length) : p.isPrefixOf s = false := by
  cases e : p.isPrefixOf s with
  | false => rfl
  | true =>
    have := (List.isPrefixOf_iff_prefix.1 e).length_le
    omega
theorem nmc_eq (c : UInt8) : nmc c = !((decide ((c.toNat : Int) < 97) || decide ((122 : Int) < c.toNat)) && (decide ((c.toNat : Int) < 48) || decide ((57 : Int) < c.toNat)) && !decide ((c.toNat : Int) = 45)) := by
  have e1 : decide ((c.toNat : Int) < 97) = decide (c < 97) := by
    rw [decide_eq_decide, UInt8.lt_iff_toNat_lt]
    have : (97 : UInt8).toNat = 97 := rfl
    omega
  have e2 : decide ((122 : Int) < c.toNat) = decide (122 < c) := by
    rw [decide_eq_decide, UInt8.lt_iff_toNat_lt]
    have : (122 : UInt8).toNat = 122 := rfl
    omega
  have e3 : decide ((c.toNat : Int) < 48) = decide (c < 48) := by
    rw [decide_eq_decide, UInt8.lt_iff_toNat_lt]
    have : (48 : UInt8).toNat = 48 := rfl
    omega
  have e4 : decide ((57 : Int) < c.toNat) = decide (57 < c) := by
    rw [decide_eq_decide, UInt8.lt_iff_toNat_lt]
    have : (57 : UInt8).toNat = 57 := rfl
    omega
  have e5 : decide ((c.toNat : Int) = 45) = (c == 45) := by
    rw [Bool.eq_iff_iff, decide_eq_true_eq, beq_iff_eq, ← UInt8.toNat_inj]
    have : (45 : UInt8).toNat = 45 := rfl
    omega
  rw [e1, e2, e3, e4, e5]; rfl
section
variable {E : Env} {f : FuncId} {s : St}
theorem behind_run (hf : Has E f Code.tithingref14_behind) (l p : Ln) : Cv E f [strOf l, strOf p] s fun r t => t = s ∧ r = .tuple ⟨[strOf (if p.isPrefixOf l then l.drop p.length else []), .bool (p.isPrefixOf l)]⟩ := by
  refine Cv_of hf.code ?_
  have h0 : (Tr.ofList (.e : Fr) 0 [strOf l, strOf p]).get 0 = some (strOf l) := rfl
  have h1 : (Tr.ofList (.e : Fr) 0 [strOf l, strOf p]).get 1 = some (strOf p) := rfl
  generalize (Tr.ofList (.e : Fr) 0 [strOf l, strOf p]) = fr0 at h0 h1
  unfold Code.tithingref14_behind
  refine W_seq (W_region (by simp only [simq, Int.reduceEq, Nat.reduceEqDiff]; rfl) ?_)
  by_cases h : l.length < p.length
  · have d1 : decide (((l.length : Nat) : Int) < ((p.length : Nat) : Int)) = true := by simp; omega
    refine W_seq (W_seq (W_region (by simp only [simq, Int.reduceEq, Nat.reduceEqDiff, h0, h1, lenL_eq, Int.ofNat_eq_natCast, d1]; rfl) ?_))
    refine W_then (by simp only [simq, Int.reduceEq, Nat.reduceEqDiff]) (W_seq (W_region (by simp only [simq, Int.reduceEq, Nat.reduceEqDiff]; rfl) (W_ret ⟨rfl, _, res_tmp (res_tmp res_nil), rfl, ?_⟩)))
    simp only [simq, Int.reduceEq, Nat.reduceEqDiff, tupled, prefix_short h]
  · have d1 : decide (((l.length : Nat) : Int) < ((p.length : Nat) : Int)) = false := by simp; omega
    have b1 := bound_num (d := l.length) (show p.length ≤ l.length by omega)
    have pt := prefix_take (p := p) (s := l) (by omega)
    cases d2 : decide (l.take p.length = p) with
    | false =>
      refine W_seq (W_seq (W_region (by simp only [simq, Int.reduceEq, Nat.reduceEqDiff, h0, h1, lenL_eq, Int.ofNat_eq_natCast, d1, b1, bound_end, takeL_eq, dropL_eq, Nat.sub_zero, List.drop_zero, d2]; rfl) ?_))
      refine W_then (by simp only [simq, Int.reduceEq, Nat.reduceEqDiff]) (W_seq (W_region (by simp only [simq, Int.reduceEq, Nat.reduceEqDiff]; rfl) (W_ret ⟨rfl, _, res_tmp (res_tmp res_nil), rfl, ?_⟩)))
      simp only [simq, Int.reduceEq, Nat.reduceEqDiff, tupled, pt, d2]
    | true =>
      refine W_seq (W_seq (W_region (by simp only [simq, Int.reduceEq, Nat.reduceEqDiff, h0, h1, lenL_eq, Int.ofNat_eq_natCast, d1, b1, bound_end, takeL_eq, dropL_eq, Nat.sub_zero, List.drop_zero, d2]; rfl) ?_))
      refine W_else (by simp only [simq, Int.reduceEq, Nat.reduceEqDiff]) (W_skip ?_)
      have b2 := bound_num (d := 0) (show p.length ≤ l.length by omega)
      have e : (l.drop p.length).take (l.length - p.length) = l.drop p.length := List.take_of_length_le (by simp)
      refine W_seq (W_region (by simp only [simq, Int.reduceEq, Nat.reduceEqDiff, h0, h1, lenL_eq, Int.ofNat_eq_natCast, b2, bound_end, takeL_eq, dropL_eq, e]; rfl) (W_ret ⟨rfl, _, res_tmp (res_tmp res_nil), rfl, ?_⟩))
      simp only [simq, Int.reduceEq, Nat.reduceEqDiff, tupled, pt, d2]
theorem idx_str {l : Ln} {i : Nat} (h : i < l.length) : nthL l i = some l[i] := by rw [nthL_eq, List.getElem?_eq_getElem h]
theorem all_take {α : Type} {l : List α} {p : α → Bool} {i : Nat} (h : i < l.length) : (l.take (i + 1)).all p = ((l.take i).all p && p l[i]) := by
  rw [List.take_succ_eq_append_getElem h, List.all_append]; simp
theorem len_ints (l : Ln) : (decide ((1 : Int) ≤ ((l.length : Nat) : Int)) && decide (((l.length : Nat) : Int) ≤ 20)) = (decide (1 ≤ l.length) && decide (l.length ≤ 20)) := by
  congr 1 <;> rw [decide_eq_decide] <;> omega
set_option maxHeartbeats 8000000 in
theorem IsName_run (hf : Has E f Code.tithingref14_IsName) (l : Ln) (hl : l.length ≤ 100000) : Cv E f [strOf l] s fun r t => t = s ∧ r = .bool (isNm l) := by
  refine Cv_of hf.code ?_
  have h0 : (Tr.ofList (.e : Fr) 0 [strOf l]).get 0 = some (strOf l) := rfl
  generalize (Tr.ofList (.e : Fr) 0 [strOf l]) = fr0 at h0
  unfold Code.tithingref14_IsName
  refine W_seq (W_region (by simp only [simq, Int.reduceEq, Nat.reduceEqDiff]; rfl) ?_)
  refine W_seq (W_seq (W_region (by simp only [simq, Int.reduceEq, Nat.reduceEqDiff]; rfl) ?_))
  refine W_block ?_
  refine W_inv (fun m fr t => t = s ∧ ∃ i, m = l.length - i ∧ i ≤ l.length ∧ fr.get 0 = some (strOf l) ∧ fr.get 3 = some (.int .i64 (i : Nat)) ∧ (l.take i).all nmc = true) ?_ l.length _ s ⟨rfl, 0, rfl, Nat.zero_le _, by simp only [simq, Int.reduceEq, Nat.reduceEqDiff, h0], by simp only [simq, Int.reduceEq, Nat.reduceEqDiff]; rfl, rfl⟩
  rintro m fr t ⟨rfl, i, rfl, hi, k0, k3, hall⟩
  unfold Code.tithingref14_IsName_l0
  by_cases hlt : i < l.length
  · have d0 : decide (((i : Nat) : Int) < ((l.length : Nat) : Int)) = true := by simp; omega
    refine W_seq (W_seq (W_region (by simp only [simq, Int.reduceEq, Nat.reduceEqDiff, k0, k3, lenL_eq, Int.ofNat_eq_natCast, d0]; rfl) (W_then (by simp only [simq, Int.reduceEq, Nat.reduceEqDiff]) (W_skip ?_))))
    have hc := idx_str hlt
    have hne := nmc_eq l[i]
    generalize l[i] = c at hc hne
    refine W_seq (W_block (W_seq (W_region (by simp only [simq, Int.reduceEq, Nat.reduceEqDiff, k0, k3, hc]; rfl) (W_seq (W.mono (Q := fun e fr' t' => e = .normal ∧ t' = t ∧ fr'.get 31 = some (.bool (!nmc c)) ∧ fr'.get 0 = some (strOf l) ∧ fr'.get 3 = some (.int .i64 (i : Nat))) ?_ ?_)))))
    · cases d1 : decide ((c.toNat : Int) < 97) <;> cases d2 : decide ((122 : Int) < c.toNat) <;> cases d3 : decide ((c.toNat : Int) < 48) <;> cases d4 : decide ((57 : Int) < c.toNat) <;> cases d5 : decide ((c.toNat : Int) = 45) <;>
        exact W_region (by simp only [simq, Int.reduceEq, Nat.reduceEqDiff, ofByte_int, d1, d2, d3, d4, d5]; rfl) ⟨rfl, rfl, by simp only [simq, Int.reduceEq, Nat.reduceEqDiff, hne, d1, d2, d3, d4, d5]; rfl, by simp only [simq, Int.reduceEq, Nat.reduceEqDiff, k0], by simp only [simq, Int.reduceEq, Nat.reduceEqDiff, k3]⟩
    rintro _ fr1 t1 ⟨rfl, ht, q31, q0, q3⟩
    rw [ht]; clear ht
    show W E _ fr1 _ _
    refine W_ifb (q := !nmc c) (by simp only [simq, Int.reduceEq, Nat.reduceEqDiff, q31]) (fun hq => ?_) (fun hq => ?_)
    · refine W_seq (W_region (by simp only [simq, Int.reduceEq, Nat.reduceEqDiff]; rfl) (W_ret ⟨rfl, _, res_tmp res_nil, rfl, ?_⟩))
      have : isNm l = false := by
        unfold isNm
        have : l.all nmc = false := by
          cases e : l.all nmc with
          | false => rfl
          | true =>
            have := List.all_eq_true.1 e l[i] (List.getElem_mem hlt)
            have hcl : l[i] = c := by
              have := hc
              rw [idx_str hlt] at this
              exact Option.some.inj this
            rw [hcl] at this
            rw [this] at hq; cases hq
        rw [this]; rfl
      simp only [simq, Int.reduceEq, Nat.reduceEqDiff, tupled, this]
    · refine W_skip ?_
      show W E _ _ _ _
      have e1 : wr .i64 ((i : Int) + 1) = ((i + 1 : Nat) : Int) := by rw [wr_i64 (by omega) (by omega)]; omega
      refine W_region (by simp only [simq, Int.reduceEq, Nat.reduceEqDiff, q3, e1]; rfl) ⟨l.length - (i + 1), by omega, rfl, i + 1, rfl, by omega, by simp only [simq, Int.reduceEq, Nat.reduceEqDiff, q0], by simp only [simq, Int.reduceEq, Nat.reduceEqDiff], ?_⟩
      rw [all_take hlt, hall]
      have hcl : l[i] = c := by
        rw [idx_str hlt] at hc
        exact Option.some.inj hc
      rw [hcl]
      simpa using hq
  · have e : i = l.length := by omega
    subst e
    have d0 : decide (((l.length : Nat) : Int) < ((l.length : Nat) : Int)) = false := by simp
    refine W_seq (W_seq (W_region (by simp only [simq, Int.reduceEq, Nat.reduceEqDiff, k0, k3, lenL_eq, Int.ofNat_eq_natCast, d0]; rfl) (W_else (by simp only [simq, Int.reduceEq, Nat.reduceEqDiff]) (W_exit ?_))))
    rw [List.take_length] at hall
    show W E _ _ _ _
    have ln := len_ints l
    unfold isNm
    rw [hall, Bool.true_and, ← ln]
    cases d1 : decide ((1 : Int) ≤ ((l.length : Nat) : Int)) <;> cases d2 : decide (((l.length : Nat) : Int) ≤ 20) <;>
      exact W_seq (W_region (by simp only [simq, Int.reduceEq, Nat.reduceEqDiff, k0, lenL_eq, Int.ofNat_eq_natCast, d1, d2]; rfl) (W_ret ⟨rfl, _, res_tmp res_nil, rfl, by simp only [simq, Int.reduceEq, Nat.reduceEqDiff, tupled]; rfl⟩))
end
end
end Go.Ev
