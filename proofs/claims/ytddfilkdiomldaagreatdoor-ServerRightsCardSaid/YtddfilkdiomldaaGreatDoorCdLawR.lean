/-
  The plain law of rights: what was put is got.
-/
import Derived.Test.YtddfilkdiomldaaGreatDoorCdGetR
set_option linter.unusedVariables false
set_option linter.unusedSimpArgs false
namespace Go.Ev
noncomputable section
theorem getR_bytesR {o g fo fg fa : Int} {b : Bool} (h : okR o g fo fg fa) : getR (bytesR o g fo fg fa b) = some (rightsC o g fo fg fa b) := by
  obtain ⟨⟨h1, h2, h3, h4, h5⟩, h6, h7⟩ := h
  have l1 : (beB 4 o.toNat).length = 4 := beB_length _ _
  have l2 : (beB 4 g.toNat).length = 4 := beB_length _ _
  have small : ∀ n : Int, 0 ≤ n ∧ n ≤ 7 → ((UInt8.ofNat n.toNat).toNat : Int) = n := by
    intro n hn
    rw [UInt8.toNat_ofNat']; omega
  have s3 := small fo h3
  have s4 := small fg h4
  have s5 := small fa h5
  have g8 : (bytesR o g fo fg fa b).getD 8 0 = UInt8.ofNat fo.toNat := by
    unfold bytesR
    rw [List.getD_eq_getElem?_getD, List.getElem?_append_right (by omega), l1, List.getElem?_append_right (by omega), l2]; rfl
  have g9 : (bytesR o g fo fg fa b).getD 9 0 = UInt8.ofNat fg.toNat := by
    unfold bytesR
    rw [List.getD_eq_getElem?_getD, List.getElem?_append_right (by omega), l1, List.getElem?_append_right (by omega), l2]; rfl
  have g10 : (bytesR o g fo fg fa b).getD 10 0 = UInt8.ofNat fa.toNat := by
    unfold bytesR
    rw [List.getD_eq_getElem?_getD, List.getElem?_append_right (by omega), l1, List.getElem?_append_right (by omega), l2]; rfl
  have g11 : (bytesR o g fo fg fa b).getD 11 0 = if b then 1 else 0 := by
    unfold bytesR
    rw [List.getD_eq_getElem?_getD, List.getElem?_append_right (by omega), l1, List.getElem?_append_right (by omega), l2]; rfl
  have t1 : (bytesR o g fo fg fa b).take 4 = beB 4 o.toNat := by
    unfold bytesR
    rw [List.take_append_of_le_length (by omega), List.take_of_length_le (by omega)]
  have t2 : ((bytesR o g fo fg fa b).drop 4).take 4 = beB 4 g.toNat := by
    unfold bytesR
    rw [List.drop_append_of_le_length (by omega), List.drop_of_length_le (by omega), List.nil_append, List.take_append_of_le_length (by omega), List.take_of_length_le (by omega)]
  have len : (bytesR o g fo fg fa b).length = 12 := by
    unfold bytesR
    simp [l1, l2]
  unfold getR
  rw [g8, g9, g10, g11, t1, t2, beN_beB, beN_beB, if_pos ⟨len, by cases b <;> decide, by omega, by omega, by omega⟩]
  congr 1
  have e1 : ((o.toNat % 256 ^ 4 : Nat) : Int) = o := by
    have : (256 : Nat) ^ 4 = 4294967296 := rfl
    omega
  have e2 : ((g.toNat % 256 ^ 4 : Nat) : Int) = g := by
    have : (256 : Nat) ^ 4 = 4294967296 := rfl
    omega
  rw [e1, e2, s3, s4, s5]
  congr 1
  cases b <;> decide
end
end Go.Ev
