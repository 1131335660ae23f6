/-
  Values that the machine finds the same are equal.
-/
import Derived.Test.YticaodbgdjjgdaaGreatDoorEvMany
set_option linter.unusedVariables false
set_option linter.unusedSimpArgs false
namespace Go.Ev

theorem addrEq_eq {a b : Addr} (h : addrEq a b = true) : a = b := by
  unfold addrEq at h
  simp only [Bool.and_eq_true, Nat.beq_eq, Option.isNone_iff_eq_none] at h
  obtain ⟨⟨⟨h1, h2⟩, h3⟩, h4⟩ := h
  cases a; cases b; simp_all
theorem oAddrEq_eq {a b : Option Addr} (h : oAddrEq a b = true) : a = b := by
  cases a with
  | none => cases b with
    | none => rfl
    | some b => cases h
  | some a => cases b with
    | none => cases h
    | some b => rw [addrEq_eq (show addrEq a b = true from h)]
theorem sameV_eq {x y : Value} (h : sameV x y = true) : x = y := by
  cases x <;> cases y <;> simp only [sameV] at h <;> try (cases h; done)
  all_goals try rfl
  · simpa using h
  · simp only [Bool.and_eq_true, kEq_eq, iEq_eq, decide_eq_true_eq] at h
    rw [h.1, h.2]
  · rw [bytesEq_eq, decide_eq_true_eq] at h
    congr 1
    apply ByteArray.ext
    apply Array.ext'
    exact h
  · rw [oAddrEq_eq h]
  · simp only [Bool.and_eq_true, Nat.beq_eq] at h
    rw [oAddrEq_eq h.1.1, h.1.2, h.2]
  · rename_i a b
    cases a <;> cases b <;> simp_all
theorem sameL_eq : ∀ {x y : List Value}, sameL x y = true → x = y := by
  intro x
  induction x with
  | nil => intro y h; cases y with
    | nil => rfl
    | cons _ _ => cases h
  | cons a x ih => intro y h; cases y with
    | nil => cases h
    | cons b y =>
      have h : (sameV a b && sameL x y) = true := h
      rw [Bool.and_eq_true] at h
      rw [sameV_eq h.1, ih h.2]
theorem same_eq {x y : Value} (h : same x y = true) : x = y := by
  cases x <;> first
    | (exact sameV_eq h)
    | skip
  all_goals
    cases y <;> first
      | (cases h; done)
      | (rename_i a b
         have h : sameL a.toList b.toList = true := h
         rw [Array.ext' (sameL_eq h)])
end Go.Ev
