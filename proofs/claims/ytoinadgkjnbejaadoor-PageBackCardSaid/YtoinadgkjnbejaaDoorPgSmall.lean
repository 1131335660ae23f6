/-
  Names, numbers and the kinds of lines: what the program and the document's answer say of them.
-/
import Derived.Test.YtoinadgkjnbejaaDoorPgCode
import Derived.Test.YtoinadgkjnbejaaDoorPgDoc
set_option linter.unusedVariables false
set_option linter.unusedSimpArgs false
namespace Go.Ev
noncomputable section
open Go.Pg
theorem bound_end (d m : Nat) : bound none d m = some d := rfl
theorem nmc_eq (c : UInt8) : nmc c = !((decide ((c.toNat : Int) < 97) || decide ((122 : Int) < c.toNat)) && (decide ((c.toNat : Int) < 48) || decide ((57 : Int) < c.toNat)) && !decide ((c.toNat : Int) = 45)) := by
  have e1 : decide ((c.toNat : Int) < 97) = decide (c < 97) := by
    rw [decide_eq_decide, UInt8.lt_iff_toNat_lt]
    have : (97 : UInt8).toNat = 97 := rfl
    omega
  have e2 : decide ((122 : Int) < c.toNat) = decide (122 < c) := by
    rw [decide_eq_decide, UInt8.lt_iff_toNat_lt]
    have : (122 : UInt8).toNat = 122 := rfl
    omega
  have e3 : decide ((c.toNat : Int) < 48) = decide (c < 48) := by
    rw [decide_eq_decide, UInt8.lt_iff_toNat_lt]
    have : (48 : UInt8).toNat = 48 := rfl
    omega
  have e4 : decide ((57 : Int) < c.toNat) = decide (57 < c) := by
    rw [decide_eq_decide, UInt8.lt_iff_toNat_lt]
    have : (57 : UInt8).toNat = 57 := rfl
    omega
  have e5 : decide ((c.toNat : Int) = 45) = (c == 45) := by
    rw [Bool.eq_iff_iff, decide_eq_true_eq, beq_iff_eq, ← UInt8.toNat_inj]
    have : (45 : UInt8).toNat = 45 := rfl
    omega
  rw [e1, e2, e3, e4, e5]; rfl
section
variable {E : Env} {f : FuncId} {s : St}
theorem all_take {α : Type} {l : List α} {p : α → Bool} {i : Nat} (h : i < l.length) : (l.take (i + 1)).all p = ((l.take i).all p && p l[i]) := by
  rw [List.take_succ_eq_append_getElem h, List.all_append]; simp
theorem len_ints (l : Ln) : (decide ((1 : Int) ≤ ((l.length : Nat) : Int)) && decide (((l.length : Nat) : Int) ≤ 20)) = (decide (1 ≤ l.length) && decide (l.length ≤ 20)) := by
  congr 1 <;> rw [decide_eq_decide] <;> omega
end
end
end Go.Ev
