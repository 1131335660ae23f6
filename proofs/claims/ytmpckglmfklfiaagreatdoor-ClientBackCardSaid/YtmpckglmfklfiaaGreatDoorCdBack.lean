/-
  What is read of bytes is what they were made of, and the bytes of what was read are the bytes: calls and replies, without any program.
-/
import Derived.Test.YtmpckglmfklfiaaGreatDoorCdPutReply
set_option linter.unusedVariables false
set_option linter.unusedSimpArgs false
namespace Go.Ev
noncomputable section
def Rest (l : List UInt8) (x : Nat × Int) (r : List UInt8) : Prop := x.2 = 0 ∧ x.1 ≤ l.length ∧ l.drop x.1 = r
section
variable {l m r : List UInt8} {x : Nat × Int} {n v : Nat}
theorem tk_fwd (h : Rest l x (m ++ r)) : tkP l m.length x = (m, (x.1 + m.length, 0)) ∧ Rest l (x.1 + m.length, 0) r := by
  obtain ⟨h1, h2, h3⟩ := h
  have hl : m.length + r.length = l.length - x.1 := by
    have := congrArg List.length h3
    rw [List.length_drop, List.length_append] at this
    omega
  have hle : x.1 + m.length ≤ l.length := by omega
  refine ⟨?_, rfl, hle, ?_⟩
  · unfold tkP
    rw [if_pos h1, if_pos hle, h3, List.take_left']
    rfl
  · rw [← List.drop_drop, h3, List.drop_left']
    rfl
theorem tk_bwd (h : (tkP l n x).2.2 = 0) : x.2 = 0 ∧ (tkP l n x).2.1 ≤ l.length ∧ (tkP l n x).1.length = n ∧ l.drop x.1 = (tkP l n x).1 ++ l.drop (tkP l n x).2.1 := by
  have h0 := tkP_ok h
  have hl := tkP_len l n x
  unfold tkP at h ⊢
  rw [if_pos h0] at h ⊢
  split at h
  · rename_i hle
    rw [if_pos hle]
    refine ⟨h0, hle, by simp; omega, ?_⟩
    show _ = (l.drop x.1).take n ++ l.drop (x.1 + n)
    rw [← List.drop_drop, List.take_append_drop]
  · exact absurd h (by show ¬ (6 : Int) = 0; decide)
theorem fx_fwd (h : Rest l x (beB n v ++ r)) (hv : v < 256 ^ n) : (fxP l n x).1 = v ∧ Rest l (fxP l n x).2 r := by
  have h1 := tk_fwd h
  rw [beB_length] at h1
  unfold fxP
  rw [h1.1]
  exact ⟨by rw [beN_beB, Nat.mod_eq_of_lt hv], h1.2⟩
theorem fx_bwd (h : (fxP l n x).2.2 = 0) : x.2 = 0 ∧ (fxP l n x).2.1 ≤ l.length ∧ l.drop x.1 = beB n (fxP l n x).1 ++ l.drop (fxP l n x).2.1 := by
  obtain ⟨h1, h2, h3, h4⟩ := tk_bwd h
  refine ⟨h1, h2, ?_⟩
  have : beB n (fxP l n x).1 = (tkP l n x).1 := by
    show beB n (beN (tkP l n x).1) = _
    have := beB_beN (tkP l n x).1
    rwa [h3] at this
  rw [this]
  exact h4
theorem numberOk_iff {z : Int} : numberOk z = true ↔ -2147483648 ≤ z ∧ z < 2147483648 := by simp [numberOk]
theorem nm_fwd {z : Int} (h : Rest l x (numB z ++ r)) (hz : numberOk z = true) : (nmP l x).1 = z ∧ Rest l (nmP l x).2 r := by
  rw [numberOk_iff] at hz
  have h1 := fx_fwd h (by omega)
  unfold nmP
  exact ⟨by rw [h1.1]; omega, h1.2⟩
theorem nm_bwd (h : (nmP l x).2.2 = 0) : x.2 = 0 ∧ (nmP l x).2.1 ≤ l.length ∧ numberOk (nmP l x).1 = true ∧ l.drop x.1 = numB (nmP l x).1 ++ l.drop (nmP l x).2.1 := by
  obtain ⟨h1, h2, h3⟩ := fx_bwd (n := 4) h
  have hlt := fxP_lt l 4 x
  refine ⟨h1, h2, ?_, ?_⟩
  · rw [numberOk_iff]
    unfold nmP
    simp only
    omega
  · have : numB (nmP l x).1 = beB 4 (fxP l 4 x).1 := by
      unfold numB nmP
      simp only
      congr 1; omega
    rw [this]
    exact h3
theorem countB_eq (m : List UInt8) : countB m = beB 1 m.length ++ m := by
  unfold countB beB beB
  simp
theorem tx_fwd (h : Rest l x (countB m ++ r)) (hm : m.length ≤ 31) : (txP l x).1 = m ∧ Rest l (txP l x).2 r := by
  rw [countB_eq, List.append_assoc] at h
  have h1 := fx_fwd h (by omega)
  have h2 := tk_fwd h1.2
  unfold txP
  rw [if_neg (by omega), h1.1, h2.1]
  exact ⟨rfl, h2.2⟩
theorem tx_bwd (h : (txP l x).2.2 = 0) : x.2 = 0 ∧ (txP l x).2.1 ≤ l.length ∧ (txP l x).1.length ≤ 31 ∧ l.drop x.1 = countB (txP l x).1 ++ l.drop (txP l x).2.1 := by
  unfold txP at h ⊢
  split at h
  · exact absurd h (failP_no _)
  · rename_i hle
    rw [if_neg hle]
    obtain ⟨h1, h2, h3, h4⟩ := tk_bwd h
    obtain ⟨k1, k2, k3⟩ := fx_bwd h1
    refine ⟨k1, h2, by omega, ?_⟩
    rw [countB_eq, h3, k3, h4, List.append_assoc]
theorem beB_one (v : Nat) : beB 1 v = [UInt8.ofNat v] := by
  unfold beB beB
  simp
theorem ms_fwd (h : Rest l x (UInt8.ofNat v :: r)) (hv : v ≤ n) (hn : n ≤ 255) : (msP l n x).1 = v ∧ Rest l (msP l n x).2 r := by
  have h1 := fx_fwd (n := 1) (v := v) (by rw [beB_one]; exact h) (by omega)
  unfold msP
  rw [if_neg (by omega)]
  exact h1
theorem ms_bwd (h : (msP l n x).2.2 = 0) : x.2 = 0 ∧ (msP l n x).2.1 ≤ l.length ∧ (msP l n x).1 ≤ n ∧ l.drop x.1 = UInt8.ofNat (msP l n x).1 :: l.drop (msP l n x).2.1 := by
  have hle := (msP_ok h).1
  unfold msP at h ⊢
  simp only at h ⊢
  split at h
  · exact absurd h (failP_no _)
  · rename_i hq
    rw [if_neg hq]
    obtain ⟨h1, h2, h3⟩ := fx_bwd h
    rw [beB_one] at h3
    exact ⟨h1, h2, by omega, h3⟩
theorem lg_fwd (h : Rest l x ((beB 2 m.length ++ m) ++ r)) (hm : m.length ≤ n) (hn : n ≤ 65535) : (lgP l n x).1 = m ∧ Rest l (lgP l n x).2 r := by
  rw [List.append_assoc] at h
  have h1 := fx_fwd h (by omega)
  have h2 := tk_fwd h1.2
  unfold lgP
  rw [if_neg (by omega), h1.1, h2.1]
  exact ⟨rfl, h2.2⟩
theorem lg_bwd (h : (lgP l n x).2.2 = 0) : x.2 = 0 ∧ (lgP l n x).2.1 ≤ l.length ∧ (lgP l n x).1.length ≤ n ∧ l.drop x.1 = (beB 2 (lgP l n x).1.length ++ (lgP l n x).1) ++ l.drop (lgP l n x).2.1 := by
  unfold lgP at h ⊢
  split at h
  · exact absurd h (failP_no _)
  · rename_i hle
    rw [if_neg hle]
    obtain ⟨h1, h2, h3, h4⟩ := tk_bwd h
    obtain ⟨k1, k2, k3⟩ := fx_bwd h1
    refine ⟨k1, h2, by omega, ?_⟩
    rw [h3, k3, h4, List.append_assoc]
theorem en_fwd (h : Rest l x []) : (enP l x).2 = 0 := by
  obtain ⟨h1, h2, h3⟩ := h
  have : x.1 = l.length := by rw [List.drop_eq_nil_iff] at h3; omega
  unfold enP
  rw [if_pos this, h1]
theorem en_bwd (h : (enP l x).2 = 0) : x.2 = 0 ∧ l.drop x.1 = [] := by
  unfold enP at h
  split at h
  · rename_i h1
    exact ⟨h, by rw [h1, List.drop_length]⟩
  · exact absurd h (failP_no _)
theorem fx_bwd' {y : Nat × (Nat × Int)} (hy : y = fxP l n x) (h : y.2.2 = 0) : x.2 = 0 ∧ y.2.1 ≤ l.length ∧ l.drop x.1 = beB n y.1 ++ l.drop y.2.1 := by subst hy; exact fx_bwd h
theorem nm_bwd' {y : Int × (Nat × Int)} (hy : y = nmP l x) (h : y.2.2 = 0) : x.2 = 0 ∧ y.2.1 ≤ l.length ∧ numberOk y.1 = true ∧ l.drop x.1 = numB y.1 ++ l.drop y.2.1 := by subst hy; exact nm_bwd h
theorem tx_bwd' {y : List UInt8 × (Nat × Int)} (hy : y = txP l x) (h : y.2.2 = 0) : x.2 = 0 ∧ y.2.1 ≤ l.length ∧ y.1.length ≤ 31 ∧ l.drop x.1 = countB y.1 ++ l.drop y.2.1 := by subst hy; exact tx_bwd h
theorem ms_bwd' {y : Nat × (Nat × Int)} (hy : y = msP l n x) (h : y.2.2 = 0) : x.2 = 0 ∧ y.2.1 ≤ l.length ∧ y.1 ≤ n ∧ l.drop x.1 = UInt8.ofNat y.1 :: l.drop y.2.1 := by subst hy; exact ms_bwd h
theorem lg_bwd' {y : List UInt8 × (Nat × Int)} (hy : y = lgP l n x) (h : y.2.2 = 0) : x.2 = 0 ∧ y.2.1 ≤ l.length ∧ y.1.length ≤ n ∧ l.drop x.1 = (beB 2 y.1.length ++ y.1) ++ l.drop y.2.1 := by subst hy; exact lg_bwd h
theorem rest0 (l : List UInt8) : Rest l (0, 0) l := ⟨rfl, Nat.zero_le _, rfl⟩
end
theorem modeN_bits (b0 b1 b2 b3 : Bool) : bit (modeN [b0, b1, b2, b3]) 0 = b0 ∧ bit (modeN [b0, b1, b2, b3]) 1 = b1 ∧ bit (modeN [b0, b1, b2, b3]) 2 = b2 ∧ bit (modeN [b0, b1, b2, b3]) 3 = b3 := by
  cases b0 <;> cases b1 <;> cases b2 <;> cases b3 <;> decide
theorem bits_modeN : ∀ m : Nat, m ≤ 15 → modeN [bit m 0, bit m 1, bit m 2, bit m 3] = m := by
  intro m hm
  have : ∀ k, k < 16 → modeN [bit k 0, bit k 1, bit k 2, bit k 3] = k := by decide
  exact this m (by omega)
theorem rt_fwd {l r : List UInt8} {x : Nat × Int} {o g fo fg fa : Int} {b : Bool} (h : Rest l x (bytesR o g fo fg fa b ++ r)) (hok : okR o g fo fg fa) :
    ((rt1 l x).1 : Int) = o ∧ ((rt2 l x).1 : Int) = g ∧ ((rt3 l x).1 : Int) = fo ∧ ((rt4 l x).1 : Int) = fg ∧ ((rt5 l x).1 : Int) = fa ∧ decide ((rt6 l x).1 = 1) = b ∧ Rest l (rt6 l x).2 r := by
  obtain ⟨⟨v1, v2, v3, v4, v5⟩, v6, v7⟩ := hok
  unfold bytesR at h
  rw [List.append_assoc, List.append_assoc] at h
  have h1 := fx_fwd h (by omega)
  have h2 := fx_fwd h1.2 (by omega)
  have h3 := ms_fwd (n := 7) h2.2 (by omega) (by decide)
  have h4 := ms_fwd (n := 7) h3.2 (by omega) (by decide)
  have h5 := ms_fwd (n := 7) h4.2 (by omega) (by decide)
  have h6 := ms_fwd (n := 1) (v := if b then 1 else 0) (r := r) (l := l) (x := (rt5 l x).2) (by
    have := h5.2
    cases b <;> exact this) (by split <;> decide) (by decide)
  have e1 : (rt1 l x).1 = _ := h1.1
  have e2 : (rt2 l x).1 = _ := h2.1
  have e3 : (rt3 l x).1 = _ := h3.1
  have e4 : (rt4 l x).1 = _ := h4.1
  have e5 : (rt5 l x).1 = _ := h5.1
  have e6 : (rt6 l x).1 = _ := h6.1
  rw [e1, e2, e3, e4, e5, e6]
  refine ⟨by omega, by omega, by omega, by omega, by omega, ?_, h6.2⟩
  cases b <;> rfl
theorem rt_bwd {l : List UInt8} {x : Nat × Int} (h : (rt6 l x).2.2 = 0) : x.2 = 0 ∧ (rt6 l x).2.1 ≤ l.length ∧ okR ((rt1 l x).1 : Nat) ((rt2 l x).1 : Nat) ((rt3 l x).1 : Nat) ((rt4 l x).1 : Nat) ((rt5 l x).1 : Nat) ∧
    l.drop x.1 = bytesR ((rt1 l x).1 : Nat) ((rt2 l x).1 : Nat) ((rt3 l x).1 : Nat) ((rt4 l x).1 : Nat) ((rt5 l x).1 : Nat) (decide ((rt6 l x).1 = 1)) ++ l.drop (rt6 l x).2.1 := by
  have hv := rt_valid h
  obtain ⟨a6, b6, c6, d6⟩ := ms_bwd h
  obtain ⟨a5, b5, c5, d5⟩ := ms_bwd a6
  obtain ⟨a4, b4, c4, d4⟩ := ms_bwd a5
  obtain ⟨a3, b3, c3, d3⟩ := ms_bwd a4
  obtain ⟨a2, b2, d2⟩ := fx_bwd a3
  obtain ⟨a1, b1, d1⟩ := fx_bwd a2
  have l1 := fxP_lt l 4 x
  have l2 := fxP_lt l 4 (rt1 l x).2
  have l1 : (rt1 l x).1 < 256 ^ 4 := l1
  have l2 : (rt2 l x).1 < 256 ^ 4 := l2
  refine ⟨a1, b6, ⟨hv, by omega, by omega⟩, ?_⟩
  have e6 : UInt8.ofNat (rt6 l x).1 = if decide ((rt6 l x).1 = 1) then 1 else 0 := by
    have : (rt6 l x).1 = 0 ∨ (rt6 l x).1 = 1 := by have : (rt6 l x).1 ≤ 1 := c6; omega
    rcases this with h | h <;> rw [h] <;> rfl
  have d1 : l.drop x.1 = beB 4 (rt1 l x).1 ++ l.drop (rt1 l x).2.1 := d1
  have d2 : l.drop (rt1 l x).2.1 = beB 4 (rt2 l x).1 ++ l.drop (rt2 l x).2.1 := d2
  have d3 : l.drop (rt2 l x).2.1 = UInt8.ofNat (rt3 l x).1 :: l.drop (rt3 l x).2.1 := d3
  have d4 : l.drop (rt3 l x).2.1 = UInt8.ofNat (rt4 l x).1 :: l.drop (rt4 l x).2.1 := d4
  have d5 : l.drop (rt4 l x).2.1 = UInt8.ofNat (rt5 l x).1 :: l.drop (rt5 l x).2.1 := d5
  have d6 : l.drop (rt5 l x).2.1 = UInt8.ofNat (rt6 l x).1 :: l.drop (rt6 l x).2.1 := d6
  rw [d1, d2, d3, d4, d5, d6, e6]
  simp only [bytesR, Int.toNat_natCast, List.append_assoc, List.cons_append, List.nil_append]
theorem call_fwd {c : CallC} {d : List UInt8} (h : c.ok d) : gcE (c.bytes d) = 0 ∧ getC (c.bytes d) = c ∧ (gc10 (c.bytes d)).1 = d := by
  obtain ⟨hr, hb⟩ := h
  unfold CallC.bad at hb
  simp only [Bool.or_eq_false_iff, decide_eq_false_iff_not] at hb
  obtain ⟨⟨⟨⟨b0, b1⟩, b2⟩, b3⟩, b4⟩ := hb
  have hn : ∀ z ∈ c.numbers, numberOk z = true := by
    intro z hz
    rw [List.any_eq_false] at b0
    simpa using b0 z hz
  have n1 := hn c.dir (by simp [CallC.numbers])
  have n2 := hn c.file (by simp [CallC.numbers])
  have n3 := hn c.ref (by simp [CallC.numbers])
  have n4 := hn c.from_ (by simp [CallC.numbers])
  have n5 := hn c.many (by simp [CallC.numbers])
  have hby : c.bytes d = countB c.do_ ++ (numB c.dir ++ (numB c.file ++ (numB c.ref ++ (numB c.from_ ++ (numB c.many ++ (countB c.name ++ (countB c.to ++ (UInt8.ofNat (modeN c.modes) :: (bytesR c.o c.g c.fo c.fg c.fa c.bl ++ ((beB 2 d.length ++ d) ++ [])))))))))) := by
    simp [CallC.bytes, CallC.numbers]
  have h0 := rest0 (c.bytes d)
  generalize hL : c.bytes d = L at h0 hby ⊢
  rw [hby] at h0
  have hm : modeN c.modes < 16 := modeN_lt [c.b0, c.b1, c.b2, c.b3]
  have h1 := tx_fwd h0 (by omega)
  rw [← hby] at h1
  have h1 : (gc1 L).1 = c.do_ ∧ Rest L (gc1 L).2 _ := h1
  have h2 : (gc2 L).1 = c.dir ∧ Rest L (gc2 L).2 _ := nm_fwd h1.2 n1
  have h3 : (gc3 L).1 = c.file ∧ Rest L (gc3 L).2 _ := nm_fwd h2.2 n2
  have h4 : (gc4 L).1 = c.ref ∧ Rest L (gc4 L).2 _ := nm_fwd h3.2 n3
  have h5 : (gc5 L).1 = c.from_ ∧ Rest L (gc5 L).2 _ := nm_fwd h4.2 n4
  have h6 : (gc6 L).1 = c.many ∧ Rest L (gc6 L).2 _ := nm_fwd h5.2 n5
  have h7 : (gc7 L).1 = c.name ∧ Rest L (gc7 L).2 _ := tx_fwd h6.2 (by omega)
  have h8 : (gc8 L).1 = c.to ∧ Rest L (gc8 L).2 _ := tx_fwd h7.2 (by omega)
  have h9 : (gc9 L).1 = modeN c.modes ∧ Rest L (gcx L) _ := ms_fwd (n := 15) h8.2 (by omega) (by decide)
  have h10 := rt_fwd h9.2 hr
  have h11 : (gc10 L).1 = d ∧ Rest L (gc10 L).2 _ := lg_fwd (n := 200) h10.2.2.2.2.2.2 (by omega) (by decide)
  refine ⟨en_fwd h11.2, ?_, h11.1⟩
  have e1 : (gc1 L).1 = _ := h1.1
  have e2 : (gc2 L).1 = _ := h2.1
  have e3 : (gc3 L).1 = _ := h3.1
  have e4 : (gc4 L).1 = _ := h4.1
  have e5 : (gc5 L).1 = _ := h5.1
  have e6 : (gc6 L).1 = _ := h6.1
  have e7 : (gc7 L).1 = _ := h7.1
  have e8 : (gc8 L).1 = _ := h8.1
  have e9 : (gc9 L).1 = _ := h9.1
  obtain ⟨r1, r2, r3, r4, r5, r6, -⟩ := h10
  have r1 : (((rt1 L (gcx L)).1 : Nat) : Int) = c.o := r1
  have r2 : (((rt2 L (gcx L)).1 : Nat) : Int) = c.g := r2
  have r3 : (((rt3 L (gcx L)).1 : Nat) : Int) = c.fo := r3
  have r4 : (((rt4 L (gcx L)).1 : Nat) : Int) = c.fg := r4
  have r5 : (((rt5 L (gcx L)).1 : Nat) : Int) = c.fa := r5
  have r6 : decide ((rt6 L (gcx L)).1 = 1) = c.bl := r6
  obtain ⟨m0, m1, m2, m3⟩ := modeN_bits c.b0 c.b1 c.b2 c.b3
  have hmm : modeN c.modes = modeN [c.b0, c.b1, c.b2, c.b3] := rfl
  unfold getC
  rw [e1, e2, e3, e4, e5, e6, e7, e8, e9, r1, r2, r3, r4, r5, r6, hmm, m0, m1, m2, m3]
theorem call_bwd {l : List UInt8} (h : gcE l = 0) : (getC l).ok (gc10 l).1 ∧ (getC l).bytes (gc10 l).1 = l := by
  obtain ⟨a0, d0⟩ := en_bwd (l := l) (x := (gc10 l).2) h
  obtain ⟨a10, b10, c10, d10⟩ := lg_bwd' (l := l) (n := 200) (x := (rt6 l (gcx l)).2) (y := gc10 l) rfl a0
  obtain ⟨ar, br, cr, dr⟩ := rt_bwd (l := l) (x := gcx l) a10
  obtain ⟨a9, b9, c9, d9⟩ := ms_bwd' (l := l) (n := 15) (x := (gc8 l).2) (y := gc9 l) rfl ar
  obtain ⟨a8, b8, c8, d8⟩ := tx_bwd' (l := l) (x := (gc7 l).2) (y := gc8 l) rfl a9
  obtain ⟨a7, b7, c7, d7⟩ := tx_bwd' (l := l) (x := (gc6 l).2) (y := gc7 l) rfl a8
  obtain ⟨a6, b6, c6, d6⟩ := nm_bwd' (l := l) (x := (gc5 l).2) (y := gc6 l) rfl a7
  obtain ⟨a5, b5, c5, d5⟩ := nm_bwd' (l := l) (x := (gc4 l).2) (y := gc5 l) rfl a6
  obtain ⟨a4, b4, c4, d4⟩ := nm_bwd' (l := l) (x := (gc3 l).2) (y := gc4 l) rfl a5
  obtain ⟨a3, b3, c3, d3⟩ := nm_bwd' (l := l) (x := (gc2 l).2) (y := gc3 l) rfl a4
  obtain ⟨a2, b2, c2, d2⟩ := nm_bwd' (l := l) (x := (gc1 l).2) (y := gc2 l) rfl a3
  obtain ⟨a1, b1, c1, d1⟩ := tx_bwd' (l := l) (x := (0, 0)) (y := gc1 l) rfl a2
  have hm : modeN (getC l).modes = (gc9 l).1 := bits_modeN _ c9
  constructor
  · refine ⟨cr, ?_⟩
    unfold CallC.bad
    simp only [Bool.or_eq_false_iff, decide_eq_false_iff_not, List.any_eq_false]
    have c1 : (getC l).do_.length ≤ 31 := c1
    have c7 : (getC l).name.length ≤ 31 := c7
    have c8 : (getC l).to.length ≤ 31 := c8
    have c10 : (gc10 l).1.length ≤ 200 := c10
    refine ⟨⟨⟨⟨?_, by omega⟩, by omega⟩, by omega⟩, by omega⟩
    intro z hz
    simp only [CallC.numbers, List.mem_cons, List.not_mem_nil, or_false] at hz
    rcases hz with rfl | rfl | rfl | rfl | rfl
    · have : numberOk (getC l).dir = true := c2
      rw [this]; decide
    · have : numberOk (getC l).file = true := c3
      rw [this]; decide
    · have : numberOk (getC l).ref = true := c4
      rw [this]; decide
    · have : numberOk (getC l).from_ = true := c5
      rw [this]; decide
    · have : numberOk (getC l).many = true := c6
      rw [this]; decide
  · have d1 : l = countB (gc1 l).1 ++ l.drop (gc1 l).2.1 := d1
    have d2 : l.drop (gc1 l).2.1 = numB (gc2 l).1 ++ l.drop (gc2 l).2.1 := d2
    have d3 : l.drop (gc2 l).2.1 = numB (gc3 l).1 ++ l.drop (gc3 l).2.1 := d3
    have d4 : l.drop (gc3 l).2.1 = numB (gc4 l).1 ++ l.drop (gc4 l).2.1 := d4
    have d5 : l.drop (gc4 l).2.1 = numB (gc5 l).1 ++ l.drop (gc5 l).2.1 := d5
    have d6 : l.drop (gc5 l).2.1 = numB (gc6 l).1 ++ l.drop (gc6 l).2.1 := d6
    have d7 : l.drop (gc6 l).2.1 = countB (gc7 l).1 ++ l.drop (gc7 l).2.1 := d7
    have d8 : l.drop (gc7 l).2.1 = countB (gc8 l).1 ++ l.drop (gc8 l).2.1 := d8
    have d9 : l.drop (gc8 l).2.1 = UInt8.ofNat (gc9 l).1 :: l.drop (gcx l).1 := d9
    have d10 : l.drop (rt6 l (gcx l)).2.1 = (beB 2 (gc10 l).1.length ++ (gc10 l).1) ++ l.drop (gc10 l).2.1 := d10
    rw [d0] at d10
    rw [d10] at dr
    have dr : l.drop (gcx l).1 = bytesR ((rt1 l (gcx l)).1 : Nat) ((rt2 l (gcx l)).1 : Nat) ((rt3 l (gcx l)).1 : Nat) ((rt4 l (gcx l)).1 : Nat) ((rt5 l (gcx l)).1 : Nat) (decide ((rt6 l (gcx l)).1 = 1)) ++ ((beB 2 (gc10 l).1.length ++ (gc10 l).1) ++ []) := dr
    have e : (getC l).bytes (gc10 l).1 = countB (gc1 l).1 ++ (numB (gc2 l).1 ++ (numB (gc3 l).1 ++ (numB (gc4 l).1 ++ (numB (gc5 l).1 ++ (numB (gc6 l).1 ++ (countB (gc7 l).1 ++ (countB (gc8 l).1 ++ (UInt8.ofNat (gc9 l).1 :: (bytesR ((rt1 l (gcx l)).1 : Nat) ((rt2 l (gcx l)).1 : Nat) ((rt3 l (gcx l)).1 : Nat) ((rt4 l (gcx l)).1 : Nat) ((rt5 l (gcx l)).1 : Nat) (decide ((rt6 l (gcx l)).1 = 1)) ++ ((beB 2 (gc10 l).1.length ++ (gc10 l).1) ++ [])))))))))) := by
      unfold CallC.bytes
      rw [hm]
      simp [getC, CallC.numbers]
    rw [e, ← dr, ← d9, ← d8, ← d7, ← d6, ← d5, ← d4, ← d3, ← d2, ← d1]
theorem tkP_le_ms (l : List UInt8) (n : Nat) (x : Nat × Int) (h : x.1 ≤ l.length) : (msP l n x).2.1 ≤ l.length := by
  unfold msP
  simp only
  split
  · rw [failP_1]; exact tkP_le h
  · exact tkP_le h
theorem tkP_le_lg (l : List UInt8) (n : Nat) (x : Nat × Int) (h : x.1 ≤ l.length) : (lgP l n x).2.1 ≤ l.length := by
  unfold lgP
  split
  · rw [failP_1]; exact tkP_le h
  · exact tkP_le (tkP_le h)
theorem dirB_of {n : Nat} (h : n ≤ 1) : dirB (decide (n = 1)) = UInt8.ofNat n := by
  have : n = 0 ∨ n = 1 := by omega
  rcases this with rfl | rfl <;> rfl
theorem item_fwd {l r : List UInt8} {x : Nat × Int} {i : ItemC} (h : Rest l x (i.bytes ++ r)) (hok : i.ok) : itV l x = i ∧ Rest l (it4 l x).2 r := by
  obtain ⟨⟨o1, o2⟩, ⟨o3, o4⟩, o5⟩ := hok
  have e : i.bytes ++ r = beB 4 i.id.toNat ++ (beB 4 i.parent.toNat ++ (dirB i.dir :: (countB i.name ++ r))) := by simp [ItemC.bytes]
  rw [e] at h
  have h1 := fx_fwd h (by omega)
  have h2 := fx_fwd h1.2 (by omega)
  have h3 := ms_fwd (n := 1) (v := if i.dir then 1 else 0) (r := countB i.name ++ r) (l := l) (x := (it2 l x).2) (by
    have := h2.2
    unfold dirB at this
    cases hd : i.dir <;> rw [hd] at this <;> exact this) (by split <;> decide) (by decide)
  have h4 := tx_fwd h3.2 o5
  have e1 : (it1 l x).1 = _ := h1.1
  have e2 : (it2 l x).1 = _ := h2.1
  have e3 : (it3 l x).1 = _ := h3.1
  have e4 : (it4 l x).1 = _ := h4.1
  refine ⟨?_, h4.2⟩
  unfold itV
  rw [e1, e2, e3, e4]
  obtain ⟨id, pa, na, di⟩ := i
  simp only at o1 o2 o3 o4 ⊢
  congr 1
  · omega
  · omega
  · cases di <;> rfl
theorem item_bwd {l : List UInt8} {x : Nat × Int} (h : (it4 l x).2.2 = 0) : x.2 = 0 ∧ (it4 l x).2.1 ≤ l.length ∧ (itV l x).ok ∧ l.drop x.1 = (itV l x).bytes ++ l.drop (it4 l x).2.1 := by
  obtain ⟨a4, b4, c4, d4⟩ := tx_bwd h
  obtain ⟨a3, b3, c3, d3⟩ := ms_bwd a4
  obtain ⟨a2, b2, d2⟩ := fx_bwd a3
  obtain ⟨a1, b1, d1⟩ := fx_bwd a2
  have l1 : (it1 l x).1 < 256 ^ 4 := fxP_lt l 4 x
  have l2 : (it2 l x).1 < 256 ^ 4 := fxP_lt l 4 (it1 l x).2
  have c3 : (it3 l x).1 ≤ 1 := c3
  have c4 : (it4 l x).1.length ≤ 31 := c4
  refine ⟨a1, b4, ⟨⟨?_, ?_⟩, ⟨?_, ?_⟩, c4⟩, ?_⟩
  · show (0 : Int) ≤ ((it1 l x).1 : Nat); omega
  · show (((it1 l x).1 : Nat) : Int) < _; omega
  · show (0 : Int) ≤ ((it2 l x).1 : Nat); omega
  · show (((it2 l x).1 : Nat) : Int) < _; omega
  · have d1 : l.drop x.1 = beB 4 (it1 l x).1 ++ l.drop (it1 l x).2.1 := d1
    have d2 : l.drop (it1 l x).2.1 = beB 4 (it2 l x).1 ++ l.drop (it2 l x).2.1 := d2
    have d3 : l.drop (it2 l x).2.1 = UInt8.ofNat (it3 l x).1 :: l.drop (it3 l x).2.1 := d3
    have d4 : l.drop (it3 l x).2.1 = countB (it4 l x).1 ++ l.drop (it4 l x).2.1 := d4
    rw [d1, d2, d3, d4]
    have hd := dirB_of c3
    unfold ItemC.bytes itV
    simp only [Int.toNat_natCast, hd, List.append_assoc, List.cons_append]
theorem items_fwd {l r : List UInt8} : ∀ (its : List ItemC) (x : Nat × Int), Rest l x ((its.map ItemC.bytes).flatten ++ r) → (∀ i ∈ its, i.ok) → (itsP l its.length x).1 = its ∧ Rest l (itsP l its.length x).2 r
  | [], x, h, _ => ⟨rfl, h⟩
  | i :: its, x, h, hok => by
    rw [List.map_cons, List.flatten_cons, List.append_assoc] at h
    have h1 := item_fwd h (hok i (by simp))
    have h2 := items_fwd its _ h1.2 fun j hj => hok j (List.mem_cons_of_mem _ hj)
    have e : itsP l (i :: its).length x = (itV l x :: (itsP l its.length (it4 l x).2).1, (itsP l its.length (it4 l x).2).2) := by
      show (if x.2 = 0 then _ else _) = _
      rw [if_pos h.1]
    rw [e, h1.1, h2.1]
    exact ⟨rfl, h2.2⟩
theorem items_bwd {l : List UInt8} : ∀ (n : Nat) (x : Nat × Int), x.1 ≤ l.length → (itsP l n x).2.2 = 0 → x.2 = 0 ∧ (itsP l n x).2.1 ≤ l.length ∧ (itsP l n x).1.length = n ∧ (∀ i ∈ (itsP l n x).1, i.ok) ∧ l.drop x.1 = ((itsP l n x).1.map ItemC.bytes).flatten ++ l.drop (itsP l n x).2.1
  | 0, x, hx, h => ⟨h, hx, rfl, (by intro i hi; cases hi), rfl⟩
  | n + 1, x, hx, h => by
    have hx0 : x.2 = 0 := by
      by_cases h0 : x.2 = 0
      · exact h0
      · have e : itsP l (n + 1) x = ([], x) := by
          show (if x.2 = 0 then _ else _) = _
          rw [if_neg h0]
        rw [e] at h
        exact absurd h h0
    have e : itsP l (n + 1) x = (itV l x :: (itsP l n (it4 l x).2).1, (itsP l n (it4 l x).2).2) := by
      show (if x.2 = 0 then _ else _) = _
      rw [if_pos hx0]
    rw [e] at h ⊢
    have hle : (it4 l x).2.1 ≤ l.length := by
      unfold it4 txP
      split
      · rw [failP_1]
        exact tkP_le (tkP_le_ms l 1 (it2 l x).2 (tkP_le (tkP_le hx)))
      · exact tkP_le (tkP_le (tkP_le_ms l 1 (it2 l x).2 (tkP_le (tkP_le hx))))
    obtain ⟨a1, a2, a3, a4, a5⟩ := items_bwd n (it4 l x).2 hle h
    obtain ⟨b1, b2, b3, b4⟩ := item_bwd a1
    refine ⟨hx0, a2, by rw [List.length_cons, a3], ?_, ?_⟩
    · intro i hi
      rcases List.mem_cons.1 hi with rfl | hi
      · exact b3
      · exact a4 i hi
    · rw [b4, a5]
      simp
theorem reply_fwd {y : ReplyC} {d : List UInt8} {its : List ItemC} (h : y.ok d its) : grE (y.bytes d its) = 0 ∧ getY (y.bytes d its) = y ∧ (gr4 (y.bytes d its)).1 = d ∧ (gr6 (y.bytes d its)).1 = its := by
  obtain ⟨hb, hi⟩ := h
  obtain ⟨b0, b1, b2, b3, b4, b5⟩ : 0 ≤ y.err ∧ y.err ≤ 65535 ∧ numberOk y.n = true ∧ y.text.length ≤ 65535 ∧ d.length ≤ 300 ∧ its.length ≤ 20 := by
    unfold ReplyC.bad at hb
    simp only [Bool.or_eq_false_iff, decide_eq_false_iff_not, Bool.not_eq_false'] at hb
    refine ⟨by omega, by omega, hb.2.2.1, by omega, by omega, by omega⟩
  have hby : y.bytes d its = beB 2 y.err.toNat ++ (numB y.n ++ ((beB 2 y.text.length ++ y.text) ++ ((beB 2 d.length ++ d) ++ (UInt8.ofNat its.length :: ((its.map ItemC.bytes).flatten ++ []))))) := by
    simp [ReplyC.bytes, ReplyC.head]
  have h0 := rest0 (y.bytes d its)
  generalize hL : y.bytes d its = L at h0 hby ⊢
  rw [hby] at h0
  have h1 := fx_fwd h0 (by omega)
  rw [← hby] at h1
  have h1 : (gr1 L).1 = y.err.toNat ∧ Rest L (gr1 L).2 _ := h1
  have h2 : (gr2 L).1 = y.n ∧ Rest L (gr2 L).2 _ := nm_fwd h1.2 b2
  have h3 : (gr3 L).1 = y.text ∧ Rest L (gr3 L).2 _ := lg_fwd (n := 65535) h2.2 b3 (by decide)
  have h4 : (gr4 L).1 = d ∧ Rest L (gr4 L).2 _ := lg_fwd (n := 300) h3.2 b4 (by decide)
  have h5 : (gr5 L).1 = its.length ∧ Rest L (gr5 L).2 _ := ms_fwd (n := 20) h4.2 b5 (by decide)
  have e5 : (gr5 L).1 = its.length := h5.1
  have h6 := items_fwd its _ h5.2 hi
  have e6 : gr6 L = itsP L its.length (gr5 L).2 := by unfold gr6; rw [e5]
  have h6 : (gr6 L).1 = its ∧ Rest L (gr6 L).2 [] := by rw [e6]; exact h6
  refine ⟨en_fwd h6.2, ?_, h4.1, h6.1⟩
  have e1 : (gr1 L).1 = _ := h1.1
  have e2 : (gr2 L).1 = _ := h2.1
  have e3 : (gr3 L).1 = _ := h3.1
  unfold getY
  rw [e1, e2, e3]
  obtain ⟨e, n, t⟩ := y
  simp only at b0 ⊢
  congr 1
  omega
theorem reply_bwd {l : List UInt8} (h : grE l = 0) : (getY l).ok (gr4 l).1 (gr6 l).1 ∧ (getY l).bytes (gr4 l).1 (gr6 l).1 = l := by
  obtain ⟨a0, d0⟩ := en_bwd (l := l) (x := (gr6 l).2) h
  have hle : (gr5 l).2.1 ≤ l.length := by
    have h1 : (gr1 l).2.1 ≤ l.length := tkP_le (Nat.zero_le _)
    have h2 : (gr2 l).2.1 ≤ l.length := tkP_le h1
    have h3 : (gr3 l).2.1 ≤ l.length := tkP_le_lg l _ _ h2
    have h4 : (gr4 l).2.1 ≤ l.length := tkP_le_lg l _ _ h3
    exact tkP_le_ms l _ _ h4
  obtain ⟨a6, b6, c6, o6, d6⟩ := items_bwd (gr5 l).1 (gr5 l).2 hle a0
  obtain ⟨a5, b5, c5, d5⟩ := ms_bwd' (l := l) (n := 20) (x := (gr4 l).2) (y := gr5 l) rfl a6
  obtain ⟨a4, b4, c4, d4⟩ := lg_bwd' (l := l) (n := 300) (x := (gr3 l).2) (y := gr4 l) rfl a5
  obtain ⟨a3, b3, c3, d3⟩ := lg_bwd' (l := l) (n := 65535) (x := (gr2 l).2) (y := gr3 l) rfl a4
  obtain ⟨a2, b2, c2, d2⟩ := nm_bwd' (l := l) (x := (gr1 l).2) (y := gr2 l) rfl a3
  obtain ⟨a1, b1, d1⟩ := fx_bwd' (l := l) (n := 2) (x := (0, 0)) (y := gr1 l) rfl a2
  have l1 : (gr1 l).1 < 256 ^ 2 := fxP_lt l 2 (0, 0)
  have c5 : (gr5 l).1 ≤ 20 := c5
  have c6 : (gr6 l).1.length = (gr5 l).1 := c6
  have c4 : (gr4 l).1.length ≤ 300 := c4
  have c3 : (gr3 l).1.length ≤ 65535 := c3
  have c2 : numberOk (gr2 l).1 = true := c2
  constructor
  · refine ⟨?_, o6⟩
    unfold ReplyC.bad
    simp only [Bool.or_eq_false_iff, decide_eq_false_iff_not, Bool.not_eq_false']
    refine ⟨?_, ?_, c2, ?_, ?_, ?_⟩
    · show ¬ (((gr1 l).1 : Nat) : Int) < 0; omega
    · show ¬ (65535 : Int) < ((gr1 l).1 : Nat); omega
    · show ¬ (65535 : Int) < ((gr3 l).1.length : Nat); omega
    · omega
    · omega
  · have d1 : l = beB 2 (gr1 l).1 ++ l.drop (gr1 l).2.1 := d1
    have d2 : l.drop (gr1 l).2.1 = numB (gr2 l).1 ++ l.drop (gr2 l).2.1 := d2
    have d3 : l.drop (gr2 l).2.1 = (beB 2 (gr3 l).1.length ++ (gr3 l).1) ++ l.drop (gr3 l).2.1 := d3
    have d4 : l.drop (gr3 l).2.1 = (beB 2 (gr4 l).1.length ++ (gr4 l).1) ++ l.drop (gr4 l).2.1 := d4
    have d5 : l.drop (gr4 l).2.1 = UInt8.ofNat (gr5 l).1 :: l.drop (gr5 l).2.1 := d5
    have d6 : l.drop (gr5 l).2.1 = ((gr6 l).1.map ItemC.bytes).flatten ++ l.drop (gr6 l).2.1 := d6
    rw [d0] at d6
    have e : (getY l).bytes (gr4 l).1 (gr6 l).1 = beB 2 (gr1 l).1 ++ (numB (gr2 l).1 ++ ((beB 2 (gr3 l).1.length ++ (gr3 l).1) ++ ((beB 2 (gr4 l).1.length ++ (gr4 l).1) ++ (UInt8.ofNat (gr5 l).1 :: (((gr6 l).1.map ItemC.bytes).flatten ++ []))))) := by
      unfold ReplyC.bytes ReplyC.head
      rw [c6]
      simp [getY]
    rw [e, ← d6, ← d5, ← d4, ← d3, ← d2, ← d1]
end
end Go.Ev
