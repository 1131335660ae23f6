/-
  Pages: which texts are numbers, as the library says it. No program in this text.
-/
import Derived.Test.YtoinadgkjnbejaaDoorPgPure2
import Derived.Lib.AtoiAllCases
set_option linter.unusedVariables false
set_option linter.unusedSimpArgs false
namespace Go.Pg
theorem digs_ge : ∀ (l : Ln) (a m : Nat), digs l a = some m → a ≤ m
  | [], a, m, h => by rw [digs] at h; cases h; exact Nat.le_refl _
  | c :: r, a, m, h => by
    obtain ⟨d, hd, _, h2⟩ := digs_some h
    have := digs_ge r _ m h2
    omega
theorem dg_nat_fin : ∀ d : Fin 10, (dg d.1).toNat = 48 + d.1 := by decide
theorem dg_nat {d : Nat} (h : d < 10) : (dg d).toNat = 48 + d := dg_nat_fin ⟨d, h⟩
theorem parse_digs : ∀ (l : Ln) (a m : Nat), digs l a = some m → m < 1000000 → Go.Lib.parseUint10 a l = .ok m
  | [], a, m, h, _ => by rw [digs] at h; cases h; rfl
  | c :: r, a, m, h, hm => by
    obtain ⟨d, hd, rfl, h2⟩ := digs_some h
    have h3 := digs_ge r _ m h2
    rw [Go.Lib.parseUint10, dg_nat hd, if_pos (by omega), if_neg (by omega), if_neg (by omega), show a * 10 + (48 + d - 48) = 10 * a + d by omega]
    exact parse_digs r _ m h2 hm
theorem atoi_num {s : Ln} {n : Nat} (h : num s = some n) : Go.Lib.atoiAll s = .ok (n : Int) := by
  have h9 := (num_some h).1
  unfold num at h
  split at h
  · cases h
  rename_i hc
  cases s with
  | nil => simp at hc
  | cons c r =>
    obtain ⟨d, hd, hcd, _⟩ := digs_some h
    have hn := dg_nat hd
    rw [← hcd] at hn
    rw [Go.Lib.atoiAll_plain c r (by omega) (by omega), Go.Lib.parseMag, if_neg (by simp), parse_digs _ _ _ h (by omega)]
    show (if 9223372036854775808 ≤ n then _ else _) = _
    rw [if_neg (by omega)]
theorem isNum_atoi (s : Ln) : isNum s = match Go.Lib.atoiAll s with | .ok v => decide (0 ≤ v) && (decide (v ≤ 999) && decide (Go.Lib.itoa v = s)) | _ => false := by
  cases h : num s with
  | some n =>
    have h9 := num_some h
    rw [atoi_num h]
    unfold isNum
    rw [h]
    have e : Go.Lib.itoa (n : Int) = s := by
      unfold Go.Lib.itoa
      rw [if_neg (by omega), Int.toNat_natCast]; exact h9.2.symm
    show true = (decide (0 ≤ (n : Int)) && (decide ((n : Int) ≤ 999) && decide (Go.Lib.itoa (n : Int) = s)))
    rw [decide_eq_true e, decide_eq_true (show (0 : Int) ≤ (n : Int) by omega), decide_eq_true (show (n : Int) ≤ 999 by omega)]; rfl
  | none =>
    have hf : isNum s = false := by unfold isNum; rw [h]; rfl
    rw [hf]
    cases ha : Go.Lib.atoiAll s with
    | ok v =>
      simp only
      by_cases c : 0 ≤ v ∧ v ≤ 999 ∧ Go.Lib.itoa v = s
      · obtain ⟨c1, c2, c3⟩ := c
        have e : s = dec v.toNat := by
          rw [← c3]; unfold Go.Lib.itoa; rw [if_neg (by omega)]
        have := isNum_dec (n := v.toNat) (by omega)
        rw [← e, hf] at this
        cases this
      · symm
        rw [Bool.and_eq_false_iff, Bool.and_eq_false_iff, decide_eq_false_iff_not, decide_eq_false_iff_not, decide_eq_false_iff_not]
        by_cases c1 : 0 ≤ v
        · by_cases c2 : v ≤ 999
          · exact .inr (.inr fun c3 => c ⟨c1, c2, c3⟩)
          · exact .inr (.inl c2)
        · exact .inl c1
    | _ => rfl
end Go.Pg
