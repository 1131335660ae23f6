/-
  Numbers of any size, as the document's writer puts them.
-/
import Derived.Test.YtmpckglmfklfiaaGreatDoorCdRefPut
set_option linter.unusedVariables false
set_option linter.unusedSimpArgs false
namespace Go.Ev
noncomputable section
theorem u8_any (z : Int) : ∃ c : UInt8, Value.int .u8 (wr .u8 z) = ofByte c := by
  refine ⟨UInt8.ofNat (BitVec.ofInt 8 z).toNat, ?_⟩
  have hlt : (BitVec.ofInt 8 z).toNat < 256 := (BitVec.ofInt 8 z).isLt
  rw [ofByte_ofNat, Nat.mod_eq_of_lt hlt]
  congr 1
  unfold wr
  rw [cnd_eq]
  split
  · rename_i h
    have h : (Bool.rec false (iLe z 255) (iLe 0 z) : Bool) = true := h
    rw [iLe_eq, iLe_eq] at h
    by_cases h0 : 0 ≤ z
    · rw [decide_eq_true h0] at h
      have h : decide (z ≤ 255) = true := h
      rw [decide_eq_true_eq] at h
      rw [BitVec.toNat_ofInt]
      omega
    · rw [decide_eq_false h0] at h; cases h
  · have e : IntKind.u8.wrap z = z % 256 := by simp [IntKind.wrap, IntKind.bits, IntKind.signed]
    rw [e, BitVec.toNat_ofInt]
    omega
section
variable {E : Env} {f : FuncId} {s t : St} {L a : Nat} {b : List UInt8} {q : Bool} {v : Value}
theorem writer_twoI_run (hf : Has E f Code._tithing_tithingref26_writer_two) (h : Wt s L a b q v) (n : Int) (most : Nat) (hr : b.length ≤ 900000) : Cv E f [ptr a 0, .int .i64 n, .int .i64 (most : Nat)] s fun r s' => Bl L a s s' ∧ ∃ v' m, m.length = 2 ∧ (0 ≤ n → n ≤ 65535 → m = beB 2 n.toNat) ∧ Wt s' L a (b ++ m) (q || (decide (n < 0) || decide ((most : Int) < n))) v' := by
  refine Cv_of hf.code ?_
  have h0 : (Tr.ofList (.e : Fr) 0 [ptr a 0, .int .i64 n, .int .i64 (most : Nat)]).get 0 = some (ptr a 0) := rfl
  have h1 : (Tr.ofList (.e : Fr) 0 [ptr a 0, .int .i64 n, .int .i64 (most : Nat)]).get 1 = some (.int .i64 n) := rfl
  have h2 : (Tr.ofList (.e : Fr) 0 [ptr a 0, .int .i64 n, .int .i64 (most : Nat)]).get 2 = some (.int .i64 (most : Nat)) := rfl
  generalize (Tr.ofList (.e : Fr) 0 [ptr a 0, .int .i64 n, .int .i64 (most : Nat)]) = fr0 at h0 h1 h2
  unfold Code._tithing_tithingref26_writer_two
  have c1 : s.cell ⟨a, 1, none⟩ = some (.bool q) := h.row.cell 1
  obtain ⟨s1, p1, W1, B1⟩ := h.note (q || (decide (n < 0) || decide ((most : Int) < n)))
  refine W_seq (W.mono (Q := fun e fr s' => e = .normal ∧ s' = s1 ∧ fr.get 0 = some (ptr a 0) ∧ fr.get 1 = some (.int .i64 n)) ?_ ?_)
  · cases q with
    | true =>
      rw [Bool.true_or] at p1
      exact W_region (by simp only [sims, Int.reduceEq, Nat.reduceEqDiff, h0, h1, c1, nilOk_ptr, p1]; rfl) ⟨rfl, rfl, by simp only [sims, Int.reduceEq, Nat.reduceEqDiff, h0], by simp only [sims, Int.reduceEq, Nat.reduceEqDiff, h1]⟩
    | false =>
      rw [Bool.false_or] at p1
      cases q1 : decide (n < 0) with
      | true =>
        rw [q1, Bool.true_or] at p1
        exact W_region (by simp only [sims, Int.reduceEq, Nat.reduceEqDiff, h0, h1, c1, nilOk_ptr, q1, p1]; rfl) ⟨rfl, rfl, by simp only [sims, Int.reduceEq, Nat.reduceEqDiff, h0], by simp only [sims, Int.reduceEq, Nat.reduceEqDiff, h1]⟩
      | false =>
        rw [q1, Bool.false_or] at p1
        exact W_region (by simp only [sims, Int.reduceEq, Nat.reduceEqDiff, h0, h1, h2, c1, nilOk_ptr, q1, p1]; rfl) ⟨rfl, rfl, by simp only [sims, Int.reduceEq, Nat.reduceEqDiff, h0], by simp only [sims, Int.reduceEq, Nat.reduceEqDiff, h1]⟩
  rintro _ fr1 s1' ⟨rfl, hs1, k0, k1⟩
  rw [hs1]; clear hs1 s1'
  show W E _ fr1 _ _
  have d0 : s1.cell ⟨a, 0, none⟩ = some v := W1.row.cell 0
  have g3 := bin_quo .i64 n 256 (by decide)
  have g6 := bin_rem .i64 n 256 (by decide)
  obtain ⟨c3, e3⟩ := u8_any (wr .i64 (n.tdiv 256))
  obtain ⟨c6, e6⟩ := u8_any (n.tmod 256)
  have hm : 0 ≤ n → n ≤ 65535 → [c3, c6] = beB 2 n.toNat := by
    intro h1 h2
    obtain ⟨k, rfl⟩ : ∃ k : Nat, n = k := ⟨n.toNat, by omega⟩
    rw [show (k : Int).tdiv 256 = ((k / 256 : Nat) : Int) from rfl, wr_i64_nat (by omega), u8_byte] at e3
    rw [show (k : Int).tmod 256 = ((k % 256 : Nat) : Int) from rfl, u8_mod] at e6
    have inj : ∀ x y : UInt8, ofByte x = ofByte y → x = y := by
      intro x y h
      have h : Value.int .u8 (x.toNat : Int) = Value.int .u8 (y.toNat : Int) := h
      injection h with _ h
      exact UInt8.toNat_inj.1 (by omega)
    rw [Int.toNat_natCast, beB_two, inj _ _ e3, inj _ _ e6]
  refine W_ops (Wo_run (l := [_, _, _, _, _, _, _, _, _, _, _]) (by simp only [sims, Int.reduceEq, Nat.reduceEqDiff, k0, k1, d0, nilOk_ptr, g3, g6]; rfl) ?_)
  refine Wo_buildSlice (size := 1) (lo := s1.next) (cs := [c3, c6].map ofByte) (by simp only [sims, Int.reduceEq, Nat.reduceEqDiff]; rw [e3, e6]; rfl) rfl (Nat.le_add_right _ _) (by rw [next_skip]; omega) (by decide) ?_
  rintro s2 ⟨D2, -⟩ l2 hs2
  have l12 : Low s1.next s1 s2 := ((Low.self s1).skip 16).trans l2
  have W2 := W1.low l12
  obtain ⟨v3, s3, s4, e3', p3, W3, B3, x3, y3⟩ := W2.app D2.feed (by simp; omega) 5
  exact Wo_all (by simp only [sims, Int.reduceEq, Nat.reduceEqDiff, k0, nilOk_ptr, e3', p3, x3.1, x3.2, y3]; rfl) ⟨rfl, _, res_nil, (B1.trans ((l12.weak W1.le).bl)).trans B3, v3, _, rfl, hm, W3⟩
theorem writer_plain_run (hf : Has E f Code._tithing_tithingref26_writer_plain) (h : Wt s L a b q v) (n : Int) (hr : b.length ≤ 900000) : Cv E f [ptr a 0, .int .i64 n] s fun r s' => Bl L a s s' ∧ ∃ v' m, m.length = 4 ∧ (0 ≤ n → n < 4294967296 → m = beB 4 n.toNat) ∧ Wt s' L a (b ++ m) (q || (decide (n < 0) || decide (4294967296 ≤ n))) v' := by
  refine Cv_of hf.code ?_
  have h0 : (Tr.ofList (.e : Fr) 0 [ptr a 0, .int .i64 n]).get 0 = some (ptr a 0) := rfl
  have h1 : (Tr.ofList (.e : Fr) 0 [ptr a 0, .int .i64 n]).get 1 = some (.int .i64 n) := rfl
  generalize (Tr.ofList (.e : Fr) 0 [ptr a 0, .int .i64 n]) = fr0 at h0 h1
  unfold Code._tithing_tithingref26_writer_plain
  have c1 : s.cell ⟨a, 1, none⟩ = some (.bool q) := h.row.cell 1
  obtain ⟨s1, p1, W1, B1⟩ := h.note (q || (decide (n < 0) || decide (4294967296 ≤ n)))
  refine W_seq (W.mono (Q := fun e fr s' => e = .normal ∧ s' = s1 ∧ fr.get 0 = some (ptr a 0) ∧ fr.get 1 = some (.int .i64 n)) ?_ ?_)
  · cases q with
    | true =>
      rw [Bool.true_or] at p1
      exact W_region (by simp only [sims, Int.reduceEq, Nat.reduceEqDiff, h0, h1, c1, nilOk_ptr, p1]; rfl) ⟨rfl, rfl, by simp only [sims, Int.reduceEq, Nat.reduceEqDiff, h0], by simp only [sims, Int.reduceEq, Nat.reduceEqDiff, h1]⟩
    | false =>
      rw [Bool.false_or] at p1
      cases q1 : decide (n < 0) with
      | true =>
        rw [q1, Bool.true_or] at p1
        exact W_region (by simp only [sims, Int.reduceEq, Nat.reduceEqDiff, h0, h1, c1, nilOk_ptr, q1, p1]; rfl) ⟨rfl, rfl, by simp only [sims, Int.reduceEq, Nat.reduceEqDiff, h0], by simp only [sims, Int.reduceEq, Nat.reduceEqDiff, h1]⟩
      | false =>
        rw [q1, Bool.false_or] at p1
        exact W_region (by simp only [sims, Int.reduceEq, Nat.reduceEqDiff, h0, h1, c1, nilOk_ptr, q1, p1]; rfl) ⟨rfl, rfl, by simp only [sims, Int.reduceEq, Nat.reduceEqDiff, h0], by simp only [sims, Int.reduceEq, Nat.reduceEqDiff, h1]⟩
  rintro _ fr1 s1' ⟨rfl, hs1, k0, k1⟩
  rw [hs1]; clear hs1 s1'
  show W E _ fr1 _ _
  have d0 : s1.cell ⟨a, 0, none⟩ = some v := W1.row.cell 0
  have g1 := bin_quo .i64 n 16777216 (by decide)
  have g2 := bin_quo .i64 n 65536 (by decide)
  have g3 := bin_quo .i64 n 256 (by decide)
  have g4 := bin_rem .i64 (wr .i64 (n.tdiv 65536)) 256 (by decide)
  have g5 := bin_rem .i64 (wr .i64 (n.tdiv 256)) 256 (by decide)
  have g6 := bin_rem .i64 n 256 (by decide)
  obtain ⟨c1', e1⟩ := u8_any (wr .i64 (n.tdiv 16777216))
  obtain ⟨c2', e2⟩ := u8_any ((wr .i64 (n.tdiv 65536)).tmod 256)
  obtain ⟨c3', e3⟩ := u8_any ((wr .i64 (n.tdiv 256)).tmod 256)
  obtain ⟨c4', e4⟩ := u8_any (n.tmod 256)
  have hm : 0 ≤ n → n < 4294967296 → [c1', c2', c3', c4'] = beB 4 n.toNat := by
    intro h1 h2
    obtain ⟨k, rfl⟩ : ∃ k : Nat, n = k := ⟨n.toNat, by omega⟩
    rw [show (k : Int).tdiv 16777216 = ((k / 16777216 : Nat) : Int) from rfl, wr_i64_nat (by omega), u8_byte] at e1
    rw [show (k : Int).tdiv 65536 = ((k / 65536 : Nat) : Int) from rfl, wr_i64_nat (by omega), show ((k / 65536 : Nat) : Int).tmod 256 = ((k / 65536 % 256 : Nat) : Int) from rfl, u8_mod] at e2
    rw [show (k : Int).tdiv 256 = ((k / 256 : Nat) : Int) from rfl, wr_i64_nat (by omega), show ((k / 256 : Nat) : Int).tmod 256 = ((k / 256 % 256 : Nat) : Int) from rfl, u8_mod] at e3
    rw [show (k : Int).tmod 256 = ((k % 256 : Nat) : Int) from rfl, u8_mod] at e4
    have inj : ∀ x y : UInt8, ofByte x = ofByte y → x = y := by
      intro x y h
      have h : Value.int .u8 (x.toNat : Int) = Value.int .u8 (y.toNat : Int) := h
      injection h with _ h
      exact UInt8.toNat_inj.1 (by omega)
    rw [Int.toNat_natCast, beB_four, inj _ _ e1, inj _ _ e2, inj _ _ e3, inj _ _ e4]
  refine W_ops (Wo_run (l := [_, _, _, _, _, _, _, _, _, _, _, _, _, _, _, _, _, _, _]) (by simp only [sims, Int.reduceEq, Nat.reduceEqDiff, k0, k1, d0, nilOk_ptr, g1, g2, g3, g4, g5, g6]; rfl) ?_)
  refine Wo_buildSlice (size := 1) (lo := s1.next) (cs := [c1', c2', c3', c4'].map ofByte) (by simp only [sims, Int.reduceEq, Nat.reduceEqDiff]; rw [e1, e2, e3, e4]; rfl) rfl (Nat.le_add_right _ _) (by rw [next_skip]; omega) (by decide) ?_
  rintro s2 ⟨D2, -⟩ l2 hs2
  have l12 : Low s1.next s1 s2 := ((Low.self s1).skip 24).trans l2
  have W2 := W1.low l12
  obtain ⟨v3, s3, s4, e3', p3, W3, B3, x3, y3⟩ := W2.app D2.feed (by simp; omega) 5
  exact Wo_all (by simp only [sims, Int.reduceEq, Nat.reduceEqDiff, k0, nilOk_ptr, e3', p3, x3.1, x3.2, y3]; rfl) ⟨rfl, _, res_nil, (B1.trans ((l12.weak W1.le).bl)).trans B3, v3, _, rfl, hm, W3⟩
end
end
end Go.Ev
