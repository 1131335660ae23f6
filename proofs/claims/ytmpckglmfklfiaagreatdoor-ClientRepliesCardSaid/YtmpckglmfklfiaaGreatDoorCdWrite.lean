/-
  The document's writer: numbers, texts, modes, behind each other.
-/
import Derived.Test.YtmpckglmfklfiaaGreatDoorCdRefR
import Derived.Test.YtmpckglmfklfiaaGreatDoorCdBack
set_option linter.unusedVariables false
set_option linter.unusedSimpArgs false
namespace Go.Ev
noncomputable section
def Bl (L a : Nat) (s t : St) : Prop := s.next ≤ t.next ∧ ∀ c, c < L → c ≠ a → t.get c = s.get c
theorem Bl.refl (L a : Nat) (s : St) : Bl L a s s := ⟨Nat.le_refl _, fun _ _ _ => rfl⟩
theorem Bl.trans {L a : Nat} {s t u : St} (h : Bl L a s t) (k : Bl L a t u) : Bl L a s u := ⟨Nat.le_trans h.1 k.1, fun c hc ha => (k.2 c hc ha).trans (h.2 c hc ha)⟩
theorem Low.bl {L a : Nat} {s t : St} (h : Low L s t) : Bl L a s t := ⟨h.2.1, fun c hc _ => h.2.2 c hc⟩
theorem But.bl {L a : Nat} {s t : St} (h : But a s t) (hL : L ≤ s.next) : Bl L a s t := ⟨h.1, fun c hc ha => h.2 c (Nat.lt_of_lt_of_le hc hL) ha⟩
structure Wt (s : St) (L a : Nat) (b : List UInt8) (q : Bool) (v : Value) : Prop where
  row : Row s a [v, .bool q]
  gr : Gr s L 1 v (b.map ofByte)
  lt : a < L
  le : L ≤ s.next
section
variable {E : Env} {f : FuncId} {s t : St} {L a : Nat} {b : List UInt8} {q : Bool} {v : Value}
theorem Wt.low (h : Wt s L a b q v) (k : Low s.next s t) : Wt t L a b q v := ⟨h.row.low k (Nat.lt_of_lt_of_le h.lt h.le), h.gr.low k (Nat.le_refl _), h.lt, Nat.le_trans h.le k.2.1⟩
theorem Wt.app (h : Wt s L a b q v) {y : Value} {m : List UInt8} (hy : Feed s 1 y (m.map ofByte)) (hr : b.length + m.length ≤ 1000000) (T : Nat) :
    ∃ v' s1 s2, appendOp (tag T 1) 1 1 s v y = some (v', s1) ∧ s1.put ⟨a, 0, none⟩ [v'] = some s2 ∧ Wt s2 L a (b ++ m) q v' ∧ Bl L a s s2 ∧ (storable v' = true ∧ vcells v' = [v']) ∧ Nat.beq (lenL [v']) 1 = true := by
  obtain ⟨n, h1, h2, h3⟩ := hy
  obtain ⟨v', s1, e, g1, g2, g3⟩ := append_gr (bytes := 1) (tg := tag T 1) (by decide) (esz_tag (by decide)) h.gr h.le h1 h2 h3 (by
    intro k hk
    rw [List.length_map] at hk h3
    unfold room
    omega)
  have R1 : Row s1 a [v, .bool q] := h.row.low g2 h.lt
  obtain ⟨s2, p, R2, n2, f2⟩ := R1.put (o := 0) (vs := [v']) (le_by rfl)
  refine ⟨v', s1, s2, e, p, ⟨R2, ?_, h.lt, ?_⟩, ?_, g1.cells, rfl⟩
  · rw [List.map_append]
    exact g1.but (but_put n2 f2) h.lt
  · rw [n2]; exact Nat.le_trans h.le g2.2.1
  · exact (g2.bl (a := a)).trans ⟨Nat.le_of_eq n2.symm, fun c _ ha => f2 c ha⟩
theorem Wt.note (h : Wt s L a b q v) (q' : Bool) : ∃ s2, s.put ⟨a, 1, none⟩ [.bool q'] = some s2 ∧ Wt s2 L a b q' v ∧ Bl L a s s2 := by
  obtain ⟨s2, p, R2, n2, f2⟩ := h.row.put (o := 1) (vs := [.bool q']) (le_by rfl)
  exact ⟨s2, p, ⟨R2, h.gr.but (but_put n2 f2) h.lt, h.lt, by rw [n2]; exact h.le⟩, ⟨Nat.le_of_eq n2.symm, fun c _ ha => f2 c ha⟩⟩
theorem u8_byte (m : Nat) : Value.int .u8 (wr .u8 (m : Int)) = ofByte (UInt8.ofNat m) := by rw [wr_u8_nat, ofByte_ofNat]
theorem u8_mod (m : Nat) : Value.int .u8 (wr .u8 ((m % 256 : Nat) : Int)) = ofByte (UInt8.ofNat m) := by rw [wr_u8_nat, Nat.mod_mod, ofByte_ofNat]
theorem writer_text_run (hf : Has E f Code._tithing_tithingref26_writer_text) (h : Wt s L a b q v) (l : List UInt8) (hr : b.length + l.length ≤ 900000) : Cv E f [ptr a 0, strOf l] s fun r s' => Bl L a s s' ∧ ∃ v', Wt s' L a (b ++ countB l) (q || decide ((31 : Int) < (l.length : Nat))) v' := by
  refine Cv_of hf.code ?_
  have h0 : (Tr.ofList (.e : Fr) 0 [ptr a 0, strOf l]).get 0 = some (ptr a 0) := rfl
  have h1 : (Tr.ofList (.e : Fr) 0 [ptr a 0, strOf l]).get 1 = some (strOf l) := rfl
  generalize (Tr.ofList (.e : Fr) 0 [ptr a 0, strOf l]) = fr0 at h0 h1
  unfold Code._tithing_tithingref26_writer_text
  have c1 : s.cell ⟨a, 1, none⟩ = some (.bool q) := h.row.cell 1
  obtain ⟨s1, p1, W1, B1⟩ := h.note (q || decide ((31 : Int) < (l.length : Nat)))
  refine W_seq (W.mono (Q := fun e fr s' => e = .normal ∧ s' = s1 ∧ fr.get 0 = some (ptr a 0) ∧ fr.get 1 = some (strOf l)) ?_ ?_)
  · cases q with
    | true =>
      rw [Bool.true_or] at p1
      exact W_region (by simp only [sims, Int.reduceEq, Nat.reduceEqDiff, h0, h1, c1, nilOk_ptr, p1]; rfl) ⟨rfl, rfl, by simp only [sims, Int.reduceEq, Nat.reduceEqDiff, h0], by simp only [sims, Int.reduceEq, Nat.reduceEqDiff, h1]⟩
    | false =>
      rw [Bool.false_or] at p1
      exact W_region (by simp only [sims, Int.reduceEq, Nat.reduceEqDiff, h0, h1, c1, nilOk_ptr, lenL_eq, Int.ofNat_eq_natCast, p1]; rfl) ⟨rfl, rfl, by simp only [sims, Int.reduceEq, Nat.reduceEqDiff, h0], by simp only [sims, Int.reduceEq, Nat.reduceEqDiff, h1]⟩
  rintro _ fr1 s1' ⟨rfl, hs1, k0, k1⟩
  rw [hs1]; clear hs1 s1'
  show W E _ fr1 _ _
  have d0 : s1.cell ⟨a, 0, none⟩ = some v := W1.row.cell 0
  refine W_seq (W_ops (Wo_run (l := [_, _, _, _, _, _, _, _]) (by simp only [sims, Int.reduceEq, Nat.reduceEqDiff, k0, k1, d0, nilOk_ptr, lenL_eq, Int.ofNat_eq_natCast]; rfl) ?_))
  refine Wo_buildSlice (size := 1) (lo := s1.next) (cs := [UInt8.ofNat l.length].map ofByte) (by simp only [sims, Int.reduceEq, Nat.reduceEqDiff]; rw [u8_byte]; rfl) rfl (Nat.le_add_right _ _) (by rw [next_skip]; omega) (by decide) ?_
  rintro s2 ⟨D2, -⟩ l2 hs2
  have l12 : Low s1.next s1 s2 := ((Low.self s1).skip 13).trans l2
  have W2 := W1.low l12
  obtain ⟨v3, s3, s4, e3, p3, W3, B3, x3, y3⟩ := W2.app D2.feed (by simp; omega) 5
  refine Wo_all (by simp only [sims, Int.reduceEq, Nat.reduceEqDiff, k0, nilOk_ptr, e3, p3, x3.1, x3.2, y3]; rfl) ?_
  show W E _ _ _ _
  have d3 : s4.cell ⟨a, 0, none⟩ = some v3 := W3.row.cell 0
  obtain ⟨v5, s5, s6, e5, p5, W5, B5, x5, y5⟩ := W3.app (Feed.str s4 l) (by simp; omega) 5
  refine W_region (by simp only [sims, Int.reduceEq, Nat.reduceEqDiff, k0, k1, d3, nilOk_ptr, e5, p5, x5.1, x5.2, y5]; rfl) ⟨rfl, _, res_nil, ((B1.trans ((l12.weak W1.le).bl)).trans B3).trans B5, v5, ?_⟩
  have e : b ++ countB l = b ++ [UInt8.ofNat l.length] ++ l := by simp [countB]
  rw [e]
  exact W5
def clampN (n : Int) : Nat := ((if n < -2147483648 then -2147483648 else if 2147483647 < n then 2147483647 else n) + 2147483648).toNat
theorem clampN_lt (n : Int) : clampN n < 4294967296 := by unfold clampN; split <;> (try split) <;> omega
theorem clampN_ok {n : Int} (h : numberOk n = true) : beB 4 (clampN n) = numB n := by
  have h := numberOk_iff.1 h
  unfold clampN numB
  rw [if_neg (by omega), if_neg (by omega)]
theorem min_num (n : Int) : minmaxL false [.int .i64 n] (.int .i64 2147483647) = some (.int .i64 (if 2147483647 < n then 2147483647 else n)) := by
  show must (kEq .i64 .i64) (some (Value.int .i64 (cnd false (cnd (iLt 2147483647 n) n 2147483647) (cnd (iLt n 2147483647) n 2147483647)))) = _
  have e : iLt n 2147483647 = decide (n < 2147483647) := by
    have t := bin_lss .i64 n 2147483647
    rw [bin_int rfl] at t
    have t : some (Value.bool (iLt n 2147483647)) = some (Value.bool (decide (n < 2147483647))) := t
    injection t with t
    injection t
  rw [cnd_false, e, show kEq .i64 .i64 = true from rfl, must_true]
  by_cases h : n < 2147483647
  · rw [decide_eq_true h, cnd_true, if_neg (by omega)]
  · rw [decide_eq_false h, cnd_false]
    split
    · rfl
    · have : n = 2147483647 := by omega
      rw [this]
theorem max_num (n : Int) : minmaxL true [.int .i64 n] (.int .i64 (-2147483648)) = some (.int .i64 (if n < -2147483648 then -2147483648 else n)) := by
  show must (kEq .i64 .i64) (some (Value.int .i64 (cnd true (cnd (iLt (-2147483648) n) n (-2147483648)) (cnd (iLt n (-2147483648)) n (-2147483648))))) = _
  have e : iLt (-2147483648) n = decide (-2147483648 < n) := by
    have t := bin_lss .i64 (-2147483648) n
    rw [bin_int rfl] at t
    have t : some (Value.bool (iLt (-2147483648) n)) = some (Value.bool (decide (-2147483648 < n))) := t
    injection t with t
    injection t
  rw [cnd_true, e, show kEq .i64 .i64 = true from rfl, must_true]
  by_cases h : -2147483648 < n
  · rw [decide_eq_true h, cnd_true, if_neg (by omega)]
  · rw [decide_eq_false h, cnd_false]
    split
    · rfl
    · have : n = -2147483648 := by omega
      rw [this]
theorem beB_four (n : Nat) : beB 4 n = [UInt8.ofNat (n / 16777216), UInt8.ofNat (n / 65536), UInt8.ofNat (n / 256), UInt8.ofNat n] := by
  show [UInt8.ofNat (n / 256 ^ 3), UInt8.ofNat (n / 256 ^ 2), UInt8.ofNat (n / 256 ^ 1), UInt8.ofNat (n / 256 ^ 0)] = _
  rw [Nat.pow_zero, Nat.div_one]
theorem beB_two (n : Nat) : beB 2 n = [UInt8.ofNat (n / 256), UInt8.ofNat n] := by
  show [UInt8.ofNat (n / 256 ^ 1), UInt8.ofNat (n / 256 ^ 0)] = _
  rw [Nat.pow_zero, Nat.div_one]
theorem st_minmax' {call : Caller} {fr : Fr} {s : St} {id : Nat} (b : Bool) (x y : Arg) : (oneOp (.minmax b [x, y])).run call noRound fr s id = om (minmaxL b [y.ev fr] (x.ev fr)) fun v => (v, s) := rfl
theorem writer_four_run (hf : Has E f Code._tithing_tithingref26_writer_four) (h : Wt s L a b q v) (n : Int) (hr : b.length ≤ 900000) : Cv E f [ptr a 0, .int .i64 n] s fun r s' => Bl L a s s' ∧ ∃ v', Wt s' L a (b ++ beB 4 (clampN n)) (q || !numberOk n) v' := by
  refine Cv_of hf.code ?_
  have h0 : (Tr.ofList (.e : Fr) 0 [ptr a 0, .int .i64 n]).get 0 = some (ptr a 0) := rfl
  have h1 : (Tr.ofList (.e : Fr) 0 [ptr a 0, .int .i64 n]).get 1 = some (.int .i64 n) := rfl
  generalize (Tr.ofList (.e : Fr) 0 [ptr a 0, .int .i64 n]) = fr0 at h0 h1
  unfold Code._tithing_tithingref26_writer_four
  have c1 : s.cell ⟨a, 1, none⟩ = some (.bool q) := h.row.cell 1
  obtain ⟨s1, p1, W1, B1⟩ := h.note (q || !numberOk n)
  refine W_seq (W.mono (Q := fun e fr s' => e = .normal ∧ s' = s1 ∧ fr.get 0 = some (ptr a 0) ∧ fr.get 1 = some (.int .i64 n)) ?_ ?_)
  · have e : (!numberOk n) = (decide (n < -2147483648) || decide (2147483648 ≤ n)) := by
      unfold numberOk
      by_cases h1 : n < -2147483648 <;> by_cases h2 : 2147483648 ≤ n <;> simp [h1, h2] <;> omega
    rw [e] at p1
    cases q with
    | true =>
      rw [Bool.true_or] at p1
      exact W_region (by simp only [sims, Int.reduceEq, Nat.reduceEqDiff, h0, h1, c1, nilOk_ptr, p1]; rfl) ⟨rfl, rfl, by simp only [sims, Int.reduceEq, Nat.reduceEqDiff, h0], by simp only [sims, Int.reduceEq, Nat.reduceEqDiff, h1]⟩
    | false =>
      rw [Bool.false_or] at p1
      cases q1 : decide (n < -2147483648) with
      | true =>
        rw [q1, Bool.true_or] at p1
        exact W_region (by simp only [sims, Int.reduceEq, Nat.reduceEqDiff, h0, h1, c1, nilOk_ptr, q1, p1]; rfl) ⟨rfl, rfl, by simp only [sims, Int.reduceEq, Nat.reduceEqDiff, h0], by simp only [sims, Int.reduceEq, Nat.reduceEqDiff, h1]⟩
      | false =>
        rw [q1, Bool.false_or] at p1
        exact W_region (by simp only [sims, Int.reduceEq, Nat.reduceEqDiff, h0, h1, c1, nilOk_ptr, q1, p1]; rfl) ⟨rfl, rfl, by simp only [sims, Int.reduceEq, Nat.reduceEqDiff, h0], by simp only [sims, Int.reduceEq, Nat.reduceEqDiff, h1]⟩
  rintro _ fr1 s1' ⟨rfl, hs1, k0, k1⟩
  rw [hs1]; clear hs1 s1'
  show W E _ fr1 _ _
  have hN := clampN_lt n
  have e1 : wr .i64 ((if (if 2147483647 < n then 2147483647 else n) < -2147483648 then -2147483648 else (if 2147483647 < n then 2147483647 else n)) + 2147483648) = ((clampN n : Nat) : Int) := by
    rw [wr_i64 (by split <;> (try split) <;> omega) (by split <;> (try split) <;> omega)]
    unfold clampN
    split <;> split <;> (try split) <;> omega
  refine W_seq (W_region (by simp only [sims, Int.reduceEq, Nat.reduceEqDiff, k1, st_minmax', min_num, max_num, e1]; rfl) ?_)
  have d0 : s1.cell ⟨a, 0, none⟩ = some v := W1.row.cell 0
  generalize clampN n = N at hN e1
  have g1 := quo_nat N 16777216 (by decide) (by omega)
  have g2 := quo_nat N 65536 (by decide) (by omega)
  have g3 := quo_nat N 256 (by decide) (by omega)
  have g4 := rem_nat (N / 65536) 256 (by decide) (by omega)
  have g5 := rem_nat (N / 256) 256 (by decide) (by omega)
  have g6 := rem_nat N 256 (by decide) (by omega)
  have n1 : ((16777216 : Nat) : Int) = 16777216 := rfl
  have n2 : ((65536 : Nat) : Int) = 65536 := rfl
  have n3 : ((256 : Nat) : Int) = 256 := rfl
  rw [n1] at g1
  rw [n2] at g2
  rw [n3] at g3 g4 g5 g6
  refine W_ops (Wo_run (l := [_, _, _, _, _, _, _, _, _, _, _, _, _, _, _, _, _, _, _]) (by simp only [sims, Int.reduceEq, Nat.reduceEqDiff, k0, d0, nilOk_ptr, g1, g2, g3, g4, g5, g6]; rfl) ?_)
  refine Wo_buildSlice (size := 1) (lo := s1.next) (cs := (beB 4 N).map ofByte) (by simp only [sims, Int.reduceEq, Nat.reduceEqDiff]; rw [u8_byte, u8_mod, u8_mod, u8_mod, beB_four]; rfl) (by rw [List.length_map, beB_length]) (Nat.le_add_right _ _) (by rw [next_skip]; omega) (by decide) ?_
  rintro s2 ⟨D2, -⟩ l2 hs2
  have l12 : Low s1.next s1 s2 := ((Low.self s1).skip 24).trans l2
  have W2 := W1.low l12
  obtain ⟨v3, s3, s4, e3, p3, W3, B3, x3, y3⟩ := W2.app D2.feed (by rw [beB_length]; omega) 5
  exact Wo_all (by simp only [sims, Int.reduceEq, Nat.reduceEqDiff, k0, nilOk_ptr, e3, p3, x3.1, x3.2, y3]; rfl) ⟨rfl, _, res_nil, (B1.trans ((l12.weak W1.le).bl)).trans B3, v3, W3⟩
theorem writer_two_run (hf : Has E f Code._tithing_tithingref26_writer_two) (h : Wt s L a b q v) (n most : Nat) (hn : n < 9223372036854775808) (hr : b.length ≤ 900000) : Cv E f [ptr a 0, .int .i64 (n : Nat), .int .i64 (most : Nat)] s fun r s' => Bl L a s s' ∧ ∃ v', Wt s' L a (b ++ beB 2 n) (q || decide (most < n)) v' := by
  refine Cv_of hf.code ?_
  have h0 : (Tr.ofList (.e : Fr) 0 [ptr a 0, .int .i64 (n : Nat), .int .i64 (most : Nat)]).get 0 = some (ptr a 0) := rfl
  have h1 : (Tr.ofList (.e : Fr) 0 [ptr a 0, .int .i64 (n : Nat), .int .i64 (most : Nat)]).get 1 = some (.int .i64 (n : Nat)) := rfl
  have h2 : (Tr.ofList (.e : Fr) 0 [ptr a 0, .int .i64 (n : Nat), .int .i64 (most : Nat)]).get 2 = some (.int .i64 (most : Nat)) := rfl
  generalize (Tr.ofList (.e : Fr) 0 [ptr a 0, .int .i64 (n : Nat), .int .i64 (most : Nat)]) = fr0 at h0 h1 h2
  unfold Code._tithing_tithingref26_writer_two
  have c1 : s.cell ⟨a, 1, none⟩ = some (.bool q) := h.row.cell 1
  obtain ⟨s1, p1, W1, B1⟩ := h.note (q || decide (most < n))
  have q1 : decide ((n : Int) < 0) = false := by simp
  have q2 : decide ((most : Int) < (n : Int)) = decide (most < n) := decide_eq_decide.2 (by omega)
  refine W_seq (W.mono (Q := fun e fr s' => e = .normal ∧ s' = s1 ∧ fr.get 0 = some (ptr a 0) ∧ fr.get 1 = some (.int .i64 (n : Nat))) ?_ ?_)
  · cases q with
    | true =>
      rw [Bool.true_or] at p1
      exact W_region (by simp only [sims, Int.reduceEq, Nat.reduceEqDiff, h0, h1, c1, nilOk_ptr, p1]; rfl) ⟨rfl, rfl, by simp only [sims, Int.reduceEq, Nat.reduceEqDiff, h0], by simp only [sims, Int.reduceEq, Nat.reduceEqDiff, h1]⟩
    | false =>
      rw [Bool.false_or] at p1
      exact W_region (by simp only [sims, Int.reduceEq, Nat.reduceEqDiff, h0, h1, h2, c1, nilOk_ptr, q1, q2, p1]; rfl) ⟨rfl, rfl, by simp only [sims, Int.reduceEq, Nat.reduceEqDiff, h0], by simp only [sims, Int.reduceEq, Nat.reduceEqDiff, h1]⟩
  rintro _ fr1 s1' ⟨rfl, hs1, k0, k1⟩
  rw [hs1]; clear hs1 s1'
  show W E _ fr1 _ _
  have d0 : s1.cell ⟨a, 0, none⟩ = some v := W1.row.cell 0
  have g3 := quo_nat n 256 (by decide) hn
  have g6 := rem_nat n 256 (by decide) hn
  rw [show ((256 : Nat) : Int) = 256 from rfl] at g3 g6
  refine W_ops (Wo_run (l := [_, _, _, _, _, _, _, _, _, _, _]) (by simp only [sims, Int.reduceEq, Nat.reduceEqDiff, k0, k1, d0, nilOk_ptr, g3, g6]; rfl) ?_)
  refine Wo_buildSlice (size := 1) (lo := s1.next) (cs := (beB 2 n).map ofByte) (by simp only [sims, Int.reduceEq, Nat.reduceEqDiff]; rw [u8_byte, u8_mod, beB_two]; rfl) (by rw [List.length_map, beB_length]) (Nat.le_add_right _ _) (by rw [next_skip]; omega) (by decide) ?_
  rintro s2 ⟨D2, -⟩ l2 hs2
  have l12 : Low s1.next s1 s2 := ((Low.self s1).skip 16).trans l2
  have W2 := W1.low l12
  obtain ⟨v3, s3, s4, e3, p3, W3, B3, x3, y3⟩ := W2.app D2.feed (by rw [beB_length]; omega) 5
  exact Wo_all (by simp only [sims, Int.reduceEq, Nat.reduceEqDiff, k0, nilOk_ptr, e3, p3, x3.1, x3.2, y3]; rfl) ⟨rfl, _, res_nil, (B1.trans ((l12.weak W1.le).bl)).trans B3, v3, W3⟩
end
end
end Go.Ev
