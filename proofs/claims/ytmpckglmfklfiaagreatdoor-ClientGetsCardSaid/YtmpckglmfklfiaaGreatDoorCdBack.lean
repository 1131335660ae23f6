/-
  What is read of bytes is what they were made of, and the bytes of what was read are the bytes: calls and replies, without any program.
-/
import Derived.Test.YtmpckglmfklfiaaGreatDoorCdPutReply
set_option linter.unusedVariables false
set_option linter.unusedSimpArgs false
namespace Go.Ev
noncomputable section
section
variable {l m r : List UInt8} {x : Nat × Int} {n v : Nat}
theorem tk_bwd (h : (tkP l n x).2.2 = 0) : x.2 = 0 ∧ (tkP l n x).2.1 ≤ l.length ∧ (tkP l n x).1.length = n ∧ l.drop x.1 = (tkP l n x).1 ++ l.drop (tkP l n x).2.1 := by
  have h0 := tkP_ok h
  have hl := tkP_len l n x
  unfold tkP at h ⊢
  rw [if_pos h0] at h ⊢
  split at h
  · rename_i hle
    rw [if_pos hle]
    refine ⟨h0, hle, by simp; omega, ?_⟩
    show _ = (l.drop x.1).take n ++ l.drop (x.1 + n)
    rw [← List.drop_drop, List.take_append_drop]
  · exact absurd h (by show ¬ (6 : Int) = 0; decide)
theorem fx_bwd (h : (fxP l n x).2.2 = 0) : x.2 = 0 ∧ (fxP l n x).2.1 ≤ l.length ∧ l.drop x.1 = beB n (fxP l n x).1 ++ l.drop (fxP l n x).2.1 := by
  obtain ⟨h1, h2, h3, h4⟩ := tk_bwd h
  refine ⟨h1, h2, ?_⟩
  have : beB n (fxP l n x).1 = (tkP l n x).1 := by
    show beB n (beN (tkP l n x).1) = _
    have := beB_beN (tkP l n x).1
    rwa [h3] at this
  rw [this]
  exact h4
theorem beB_one (v : Nat) : beB 1 v = [UInt8.ofNat v] := by
  unfold beB beB
  simp
theorem ms_bwd (h : (msP l n x).2.2 = 0) : x.2 = 0 ∧ (msP l n x).2.1 ≤ l.length ∧ (msP l n x).1 ≤ n ∧ l.drop x.1 = UInt8.ofNat (msP l n x).1 :: l.drop (msP l n x).2.1 := by
  have hle := (msP_ok h).1
  unfold msP at h ⊢
  simp only at h ⊢
  split at h
  · exact absurd h (failP_no _)
  · rename_i hq
    rw [if_neg hq]
    obtain ⟨h1, h2, h3⟩ := fx_bwd h
    rw [beB_one] at h3
    exact ⟨h1, h2, by omega, h3⟩
theorem lg_bwd (h : (lgP l n x).2.2 = 0) : x.2 = 0 ∧ (lgP l n x).2.1 ≤ l.length ∧ (lgP l n x).1.length ≤ n ∧ l.drop x.1 = (beB 2 (lgP l n x).1.length ++ (lgP l n x).1) ++ l.drop (lgP l n x).2.1 := by
  unfold lgP at h ⊢
  split at h
  · exact absurd h (failP_no _)
  · rename_i hle
    rw [if_neg hle]
    obtain ⟨h1, h2, h3, h4⟩ := tk_bwd h
    obtain ⟨k1, k2, k3⟩ := fx_bwd h1
    refine ⟨k1, h2, by omega, ?_⟩
    rw [h3, k3, h4, List.append_assoc]
theorem en_bwd (h : (enP l x).2 = 0) : x.2 = 0 ∧ l.drop x.1 = [] := by
  unfold enP at h
  split at h
  · rename_i h1
    exact ⟨h, by rw [h1, List.drop_length]⟩
  · exact absurd h (failP_no _)
theorem lg_bwd' {y : List UInt8 × (Nat × Int)} (hy : y = lgP l n x) (h : y.2.2 = 0) : x.2 = 0 ∧ y.2.1 ≤ l.length ∧ y.1.length ≤ n ∧ l.drop x.1 = (beB 2 y.1.length ++ y.1) ++ l.drop y.2.1 := by subst hy; exact lg_bwd h
end
theorem rt_bwd {l : List UInt8} {x : Nat × Int} (h : (rt6 l x).2.2 = 0) : x.2 = 0 ∧ (rt6 l x).2.1 ≤ l.length ∧ okR ((rt1 l x).1 : Nat) ((rt2 l x).1 : Nat) ((rt3 l x).1 : Nat) ((rt4 l x).1 : Nat) ((rt5 l x).1 : Nat) ∧
    l.drop x.1 = bytesR ((rt1 l x).1 : Nat) ((rt2 l x).1 : Nat) ((rt3 l x).1 : Nat) ((rt4 l x).1 : Nat) ((rt5 l x).1 : Nat) (decide ((rt6 l x).1 = 1)) ++ l.drop (rt6 l x).2.1 := by
  have hv := rt_valid h
  obtain ⟨a6, b6, c6, d6⟩ := ms_bwd h
  obtain ⟨a5, b5, c5, d5⟩ := ms_bwd a6
  obtain ⟨a4, b4, c4, d4⟩ := ms_bwd a5
  obtain ⟨a3, b3, c3, d3⟩ := ms_bwd a4
  obtain ⟨a2, b2, d2⟩ := fx_bwd a3
  obtain ⟨a1, b1, d1⟩ := fx_bwd a2
  have l1 := fxP_lt l 4 x
  have l2 := fxP_lt l 4 (rt1 l x).2
  have l1 : (rt1 l x).1 < 256 ^ 4 := l1
  have l2 : (rt2 l x).1 < 256 ^ 4 := l2
  refine ⟨a1, b6, ⟨hv, by omega, by omega⟩, ?_⟩
  have e6 : UInt8.ofNat (rt6 l x).1 = if decide ((rt6 l x).1 = 1) then 1 else 0 := by
    have : (rt6 l x).1 = 0 ∨ (rt6 l x).1 = 1 := by have : (rt6 l x).1 ≤ 1 := c6; omega
    rcases this with h | h <;> rw [h] <;> rfl
  have d1 : l.drop x.1 = beB 4 (rt1 l x).1 ++ l.drop (rt1 l x).2.1 := d1
  have d2 : l.drop (rt1 l x).2.1 = beB 4 (rt2 l x).1 ++ l.drop (rt2 l x).2.1 := d2
  have d3 : l.drop (rt2 l x).2.1 = UInt8.ofNat (rt3 l x).1 :: l.drop (rt3 l x).2.1 := d3
  have d4 : l.drop (rt3 l x).2.1 = UInt8.ofNat (rt4 l x).1 :: l.drop (rt4 l x).2.1 := d4
  have d5 : l.drop (rt4 l x).2.1 = UInt8.ofNat (rt5 l x).1 :: l.drop (rt5 l x).2.1 := d5
  have d6 : l.drop (rt5 l x).2.1 = UInt8.ofNat (rt6 l x).1 :: l.drop (rt6 l x).2.1 := d6
  rw [d1, d2, d3, d4, d5, d6, e6]
  simp only [bytesR, Int.toNat_natCast, List.append_assoc, List.cons_append, List.nil_append]
end
end Go.Ev
