/-
  The document's reader: what it takes is what the client's reader takes.
-/
import Derived.Test.YtmpckglmfklfiaaGreatDoorCdBack
set_option linter.unusedVariables false
set_option linter.unusedSimpArgs false
namespace Go.Ev
noncomputable section
def chkP (q : Bool) (e : Int) (x : Nat × Int) : Nat × Int := if q = false ∧ x.2 = 0 then (x.1, e) else x
theorem chkP_true (e : Int) (x : Nat × Int) : chkP true e x = x := by unfold chkP; rw [if_neg (by simp)]
theorem chkP_false (x : Nat × Int) : chkP false 3 x = failP x := by
  unfold chkP failP
  by_cases h : x.2 = 0
  · rw [if_pos ⟨rfl, h⟩, if_pos h]
  · rw [if_neg (fun k => h k.2), if_neg h]
theorem beN_zeros : ∀ n : Nat, beN (List.replicate n 0) = 0
  | 0 => rfl
  | n + 1 => by
    rw [List.replicate_succ, beN_cons, beN_zeros n]
    show 0 * _ + 0 = 0
    rw [Nat.zero_mul]
theorem fxP_no {l : List UInt8} {n : Nat} {x : Nat × Int} (h : (fxP l n x).2.2 ≠ 0) : (fxP l n x).1 = 0 := by
  unfold fxP tkP at h ⊢
  by_cases h1 : x.2 = 0
  · simp only [if_pos h1] at h ⊢
    by_cases h2 : x.1 + n ≤ l.length
    · simp only [if_pos h2] at h; exact absurd rfl h
    · simp only [if_neg h2]; exact beN_zeros n
  · simp only [if_neg h1]; exact beN_zeros n
theorem tkP_zero {l : List UInt8} {x : Nat × Int} (h : x.2 ≠ 0) : tkP l 0 x = ([], x) := by
  unfold tkP
  rw [if_neg h]; rfl
section
variable {E : Env} {f : FuncId} {s t : St} {hi a : Nat} {v : Value} {l : List UInt8} {x : Nat × Int}
theorem check_run (hf : Has E f Code._tithing_tithingref26_reader_check) (R : Rd s hi a v l x) (q : Bool) (e : Int) : Cv E f [ptr a 0, .bool q, .int .i64 e] s fun r s' => Rd s' hi a v l (chkP q e x) ∧ But a s s' := by
  obtain ⟨k, z⟩ := x
  refine Cv_of hf.code ?_
  have h0 : (Tr.ofList (.e : Fr) 0 [ptr a 0, .bool q, .int .i64 e]).get 0 = some (ptr a 0) := rfl
  have h1 : (Tr.ofList (.e : Fr) 0 [ptr a 0, .bool q, .int .i64 e]).get 1 = some (.bool q) := rfl
  have h2 : (Tr.ofList (.e : Fr) 0 [ptr a 0, .bool q, .int .i64 e]).get 2 = some (.int .i64 e) := rfl
  generalize (Tr.ofList (.e : Fr) 0 [ptr a 0, .bool q, .int .i64 e]) = fr0 at h0 h1 h2
  unfold Code._tithing_tithingref26_reader_check
  have c2 : s.cell ⟨a, 2, none⟩ = some (.int .i64 z) := R.row.cell 2
  cases q with
  | true =>
    refine W_seq (W_region (by simp only [sims, Int.reduceEq, Nat.reduceEqDiff, h0, h1]; rfl) (W_else (by simp only [sims, Int.reduceEq, Nat.reduceEqDiff]) (W_skip ⟨rfl, _, res_nil, ?_, But.refl _ _⟩)))
    rw [chkP_true]
    exact R
  | false =>
    by_cases hz : z = 0
    · subst hz
      obtain ⟨t, p1, R1, n1, f1⟩ := R.row.put (o := 2) (vs := [.int .i64 e]) (le_by rfl)
      have B1 := but_put n1 f1
      refine W_seq (W_region (by simp only [sims, Int.reduceEq, Nat.reduceEqDiff, h0, h1, c2, nilOk_ptr]; rfl) (W_then (by simp only [sims, Int.reduceEq, Nat.reduceEqDiff]) (W_region (by simp only [sims, Int.reduceEq, Nat.reduceEqDiff, h0, h2, nilOk_ptr, p1]; rfl) ⟨rfl, _, res_nil, ?_, B1⟩)))
      have : chkP false e (k, 0) = (k, e) := by unfold chkP; rw [if_pos ⟨rfl, rfl⟩]
      rw [this]
      exact R.put R1 B1 R.le
    · have d : decide (z = 0) = false := decide_eq_false hz
      refine W_seq (W_region (by simp only [sims, Int.reduceEq, Nat.reduceEqDiff, h0, h1, c2, nilOk_ptr, d]; rfl) (W_else (by simp only [sims, Int.reduceEq, Nat.reduceEqDiff]) (W_skip ⟨rfl, _, res_nil, ?_, But.refl _ _⟩)))
      have : chkP false e (k, z) = (k, z) := by unfold chkP; rw [if_neg (fun h => hz h.2)]
      rw [this]
      exact R
theorem bytes_run (hC : Codes E) (hf : Has E f Code._tithing_tithingref26_reader_bytes) (R : Rd s hi a v l x) {n : Nat} (hn : n ≤ 65535) : Cv E f [ptr a 0, .int .i64 (n : Nat)] s fun r s' => Rd s' hi a v l (tkP l n x).2 ∧ But a s s' ∧ Mid s' s.next s'.next 1 r ((tkP l n x).1.map ofByte) := by
  obtain ⟨p, c, rfl⟩ := R.slice
  have hl := R.few
  have hk := R.le
  refine Cv_of hf.code ?_
  have h0 : (Tr.ofList (.e : Fr) 0 [ptr a 0, .int .i64 (n : Nat)]).get 0 = some (ptr a 0) := rfl
  have h1 : (Tr.ofList (.e : Fr) 0 [ptr a 0, .int .i64 (n : Nat)]).get 1 = some (.int .i64 (n : Nat)) := rfl
  generalize (Tr.ofList (.e : Fr) 0 [ptr a 0, .int .i64 (n : Nat)]) = fr0 at h0 h1
  unfold Code._tithing_tithingref26_reader_bytes
  have c0 : s.cell ⟨a, 0, none⟩ = some (.slice p l.length c) := R.row.cell 0
  have c1 : s.cell ⟨a, 1, none⟩ = some (.int .i64 (x.1 : Nat)) := R.row.cell 1
  have e1 : wr .i64 (((l.length : Nat) : Int) - (x.1 : Int)) = ((l.length - x.1 : Nat) : Int) := by rw [wr_i64 (by omega) (by omega)]; omega
  have d1 : decide (((n : Nat) : Int) ≤ ((l.length - x.1 : Nat) : Int)) = decide (x.1 + n ≤ l.length) := decide_eq_decide.2 (by omega)
  refine W_seq (W_region (by simp only [sims, Int.reduceEq, Nat.reduceEqDiff]; rfl) ?_)
  first | refine W_seq (W_opsM (Wo_run (by simp only [sims, Int.reduceEq, Nat.reduceEqDiff, h0, h1, c0, c1, nilOk_ptr, lenL_eq, Int.ofNat_eq_natCast, e1, d1]; rfl) (Wo_call hC._tithing_tithingref26_reader_check.prim (by simp only [sims, Int.reduceEq, Nat.reduceEqDiff, h0, h1, c0, c1, nilOk_ptr, lenL_eq, Int.ofNat_eq_natCast, e1, d1]; try rfl) ((check_run hC._tithing_tithingref26_reader_check R (decide (x.1 + n ≤ l.length)) 6).mono ?_)))) | refine W_seq (W_ops (Wo_run (by simp only [sims, Int.reduceEq, Nat.reduceEqDiff, h0, h1, c0, c1, nilOk_ptr, lenL_eq, Int.ofNat_eq_natCast, e1, d1]; rfl) (Wo_call hC._tithing_tithingref26_reader_check.prim (by simp only [sims, Int.reduceEq, Nat.reduceEqDiff, h0, h1, c0, c1, nilOk_ptr, lenL_eq, Int.ofNat_eq_natCast, e1, d1]; try rfl) ((check_run hC._tithing_tithingref26_reader_check R (decide (x.1 + n ≤ l.length)) 6).mono ?_))))
  rintro _ s1 ⟨R1, B1⟩
  refine Wo_nil ?_
  show W E _ _ s1 _
  have n1 := B1.1
  have b2 : s1.cell ⟨a, 2, none⟩ = some (.int .i64 (chkP (decide (x.1 + n ≤ l.length)) 6 x).2) := R1.row.cell 2
  by_cases he : (chkP (decide (x.1 + n ≤ l.length)) 6 x).2 = 0
  · -- there are so many
    have hx0 : x.2 = 0 := by
      unfold chkP at he
      split at he
      · exact absurd he (show ¬ (6 : Int) = 0 by decide)
      · exact he
    have hle : x.1 + n ≤ l.length := by
      by_cases hq : x.1 + n ≤ l.length
      · exact hq
      · exfalso
        rw [decide_eq_false hq] at he
        unfold chkP at he
        rw [if_pos ⟨rfl, hx0⟩] at he
        exact absurd he (show ¬ (6 : Int) = 0 by decide)
    have hc : chkP (decide (x.1 + n ≤ l.length)) 6 x = x := by rw [decide_eq_true hle, chkP_true]
    rw [hc] at R1 b2
    have ht : tkP l n x = ((l.drop x.1).take n, (x.1 + n, 0)) := by unfold tkP; rw [if_pos hx0, if_pos hle]
    rw [ht]
    refine W_seq (W_seq (W_region (by simp only [sims, Int.reduceEq, Nat.reduceEqDiff, h0, b2, nilOk_ptr, hx0]; rfl) ?_))
    refine W_else (by simp only [sims, Int.reduceEq, Nat.reduceEqDiff]) (W_skip ?_)
    have e2 : wr .i64 ((x.1 : Int) + (n : Int)) = ((x.1 + n : Nat) : Int) := by rw [wr_i64 (by omega) (by omega)]; omega
    have b1 : s1.cell ⟨a, 1, none⟩ = some (.int .i64 (x.1 : Nat)) := R1.row.cell 1
    obtain ⟨t, p1, T1, nt, ft⟩ := R1.row.put (o := 1) (vs := [.int .i64 ((x.1 + n : Nat) : Int)]) (le_by rfl)
    have BT := but_put nt ft
    have RT : Rd t hi a (.slice p l.length c) l (x.1 + n, 0) := R1.put (y := (x.1 + n, 0)) (by
      have T1 : Row t a [.slice p l.length c, .int .i64 ((x.1 + n : Nat) : Int), .int .i64 x.2] := T1
      rw [hx0] at T1
      exact T1) BT hle
    refine W_seq (W_region (by simp only [sims, Int.reduceEq, Nat.reduceEqDiff, h0, h1, b1, nilOk_ptr, e2, p1]; rfl) ?_)
    have t0 : t.cell ⟨a, 0, none⟩ = some (.slice p l.length c) := RT.row.cell 0
    have t1 : t.cell ⟨a, 1, none⟩ = some (.int .i64 ((x.1 + n : Nat) : Int)) := RT.row.cell 1
    have e3 : wr .i64 (((x.1 + n : Nat) : Int) - (n : Int)) = (x.1 : Int) := by rw [wr_i64 (by omega) (by omega)]; omega
    have RS := RT.low ((Low.self t).skip 18) RT.lt
    obtain ⟨w, g1, g2⟩ := RS.sl.slice (by decide) (l := x.1) (k := x.1 + n) (by omega) hle
    have g3 : ((l.map ofByte).drop (x.1 * 1)).take ((x.1 + n - x.1) * 1) = (((l.drop x.1).take n).map ofByte) := by
      rw [Nat.mul_one, Nat.mul_one, Nat.add_sub_cancel_left, ← List.map_drop, ← List.map_take]
    rw [g3] at g2
    refine W_seq (W_ops (Wo_run (l := [_, _, _, _, _, _, _, _, _, _, _, _, _, _, _]) (by simp only [sims, Int.reduceEq, Nat.reduceEqDiff, h0, h1, t0, t1, nilOk_ptr, e3, g1]; rfl) ?_))
    refine Wo_buildSlice (size := 1) (lo := t.next) (cs := []) rfl rfl (Nat.le_add_right _ _) (by rw [next_skip]; omega) (by decide) ?_
    rintro s2 ⟨-, k1⟩ k2 hs2
    have l2 : Low t.next t s2 := ((Low.self t).skip 18).trans k2
    refine Wo_append (lo := t.next) (by simp only [sims, Int.reduceEq, Nat.reduceEqDiff]) (by simp only [sims, Int.reduceEq, Nat.reduceEqDiff]) (k1.weak (Nat.le_add_right _ _)) l2.le (g2.low k2 (Nat.le_trans RT.ge (Nat.le_of_lt RT.lt))).feed (by decide) (by simp [room]; omega) ?_
    rintro y s3 g3 g4 -
    refine Wo_all (by simp only [sims, Int.reduceEq, Nat.reduceEqDiff]; rfl) (W_ret ⟨rfl, _, res_tmp res_nil, RT.low (l2.trans g4) RT.lt, (B1.trans BT).trans ((l2.trans g4).but a), ?_⟩)
    have gm := (g3.weak (show s.next ≤ t.next by omega)).mid
    simp only [sims, Int.reduceEq, Nat.reduceEqDiff, tupled]
    simpa using gm
  · have ht : tkP l n x = (List.replicate n 0, chkP (decide (x.1 + n ≤ l.length)) 6 x) := by
      unfold tkP
      by_cases hx0 : x.2 = 0
      · rw [if_pos hx0]
        by_cases hq : x.1 + n ≤ l.length
        · exfalso
          rw [decide_eq_true hq, chkP_true] at he
          exact he hx0
        · rw [if_neg hq, decide_eq_false hq]
          unfold chkP
          rw [if_pos ⟨rfl, hx0⟩]
      · rw [if_neg hx0]
        unfold chkP
        rw [if_neg (fun h => hx0 h.2)]
    rw [ht]
    have d : decide ((chkP (decide (x.1 + n ≤ l.length)) 6 x).2 = 0) = false := decide_eq_false he
    refine W_seq (W_seq (W_region (by simp only [sims, Int.reduceEq, Nat.reduceEqDiff, h0, b2, nilOk_ptr, d]; rfl) ?_))
    refine W_then (by simp only [sims, Int.reduceEq, Nat.reduceEqDiff]) ?_
    refine W_seq (W_ops (Wo_run (l := [_]) (by simp only [sims, Int.reduceEq, Nat.reduceEqDiff, h1]; rfl) ?_))
    refine Wo_mkSlice (lo := s1.next) (size := 1) (n := n) (by simp only [sims, Int.reduceEq, Nat.reduceEqDiff]) (by simp only [sims, Int.reduceEq, Nat.reduceEqDiff]) (by simp [room]; omega) (by simp [room]; omega) rfl (Nat.le_add_right _ _) (by rw [next_skip]; omega) ?_
    intro s2 g2 g3 hs2
    have l2 : Low s1.next s1 s2 := ((Low.self s1).skip 3).trans g3
    have hn2 : s2.next = s1.next + 3 := by rw [hs2, St.next_set, next_skip]
    refine Wo_all (by simp only [sims, Int.reduceEq, Nat.reduceEqDiff]; rfl) (W_ret ⟨rfl, _, res_tmp res_nil, R1.low l2 R1.lt, B1.trans (l2.but a), ?_⟩)
    simp only [sims, Int.reduceEq, Nat.reduceEqDiff, tupled]
    rw [List.map_replicate]
    rw [flat1] at g2
    exact ⟨g2.wide (by omega), fun q m c e => by cases e; show s.next ≤ s1.next + 1; omega⟩
theorem number_loop {m : List UInt8} (hm : m.length ≤ 4) {w : Value} {fr : Fr} (hw : Sl s s.next 1 w (m.map ofByte)) {a0 : Value} (h0 : fr.get 0 = some a0) (h1 : fr.get 1 = some (.int .i64 (m.length : Nat))) (h5 : fr.get 5 = some w) (h6 : fr.get 6 = some (.int .i64 0)) (h7 : fr.get 7 = some (.int .i64 0)) {Q : Ex → Fr → St → Prop}
    (hq : ∀ fr, fr.get 6 = some (.int .i64 (beN m : Nat)) → Q (.exit 0) fr s) : W E (.loop Code._tithing_tithingref26_reader_number_l0) fr s Q := by
  obtain ⟨p, k, c, rfl, hk⟩ := hw.parts
  rw [List.length_map, Nat.mul_one] at hk
  subst hk
  refine W_inv (fun j fr t => t = s ∧ ∃ i, j = m.length - i ∧ i ≤ m.length ∧ fr.get 1 = some (.int .i64 (m.length : Nat)) ∧ fr.get 5 = some (.slice p m.length c) ∧ fr.get 6 = some (.int .i64 (beN (m.take i) : Nat)) ∧ fr.get 7 = some (.int .i64 (i : Nat))) ?_ (m.length - 0) fr s ⟨rfl, 0, rfl, Nat.zero_le _, h1, h5, by rw [List.take_zero]; exact h6, h7⟩
  rintro j fr t ⟨rfl, i, rfl, hi, g1, g5, g6, g7⟩
  unfold Code._tithing_tithingref26_reader_number_l0
  by_cases hlt : i < m.length
  · have d : decide (((i : Nat) : Int) < ((m.length : Nat) : Int)) = true := by simp; omega
    refine W_seq (W_seq (W_region (by simp only [sims, Int.reduceEq, Nat.reduceEqDiff, g7, g1, d]; rfl) (W_then (by simp only [sims, Int.reduceEq, Nat.reduceEqDiff]) (W_skip ?_))))
    obtain ⟨q, rfl, hcell⟩ := hw.cell (i := i) (by simpa using hlt)
    rw [List.getElem?_map, List.getElem?_eq_getElem hlt, Option.map_some] at hcell
    have hb : Nat.blt i m.length = true := by rw [Nat.blt_eq]; exact hlt
    have hn := beN_lt (m.take i)
    have hpow : (256 : Nat) ^ (m.take i).length ≤ 256 ^ 3 := Nat.pow_le_pow_right (by omega) (by rw [List.length_take]; omega)
    have hc := m[i].toNat_lt
    have e1 : wr .i64 (256 * ((beN (m.take i) : Nat) : Int)) = ((256 * beN (m.take i) : Nat) : Int) := by rw [wr_i64 (by omega) (by omega)]; omega
    have e2 : wr .i64 ((m[i].toNat : Nat) : Int) = ((m[i].toNat : Nat) : Int) := wr_i64_nat (by omega)
    have e3 : wr .i64 (((256 * beN (m.take i) : Nat) : Int) + ((m[i].toNat : Nat) : Int)) = ((beN (m.take (i + 1)) : Nat) : Int) := by
      rw [List.take_succ_eq_append_getElem hlt, beN_snoc, wr_i64 (by omega) (by omega)]; omega
    have e4 : wr .i64 (((i : Nat) : Int) + 1) = ((i + 1 : Nat) : Int) := by rw [wr_i64 (by omega) (by omega)]; omega
    refine W_seq (W_block (W_region (by simp only [sims, Int.reduceEq, Nat.reduceEqDiff, g1, g5, g6, g7, e1, e2, e3, hb, hcell]; rfl) ?_))
    show W E _ _ _ _
    refine W_region (by simp only [sims, Int.reduceEq, Nat.reduceEqDiff, g7, e4]; rfl) ?_
    exact ⟨m.length - (i + 1), by omega, rfl, i + 1, rfl, by omega, by simp only [sims, Int.reduceEq, Nat.reduceEqDiff, g1], by simp only [sims, Int.reduceEq, Nat.reduceEqDiff, g5], by simp only [sims, Int.reduceEq, Nat.reduceEqDiff], by simp only [sims, Int.reduceEq, Nat.reduceEqDiff]⟩
  · have hi' : i = m.length := by omega
    have d : decide (((i : Nat) : Int) < ((m.length : Nat) : Int)) = false := by simp; omega
    refine W_seq (W_seq (W_region (by simp only [sims, Int.reduceEq, Nat.reduceEqDiff, g7, g1, d]; rfl) (W_else (by simp only [sims, Int.reduceEq, Nat.reduceEqDiff]) (W_exit ?_))))
    refine hq _ ?_
    rw [hi', List.take_length] at g6
    simp only [sims, Int.reduceEq, Nat.reduceEqDiff, g6]
theorem refnumber_run (hC : Codes E) (hf : Has E f Code._tithing_tithingref26_reader_number) (R : Rd s hi a v l x) {n : Nat} (hn : n ≤ 4) : Cv E f [ptr a 0, .int .i64 (n : Nat)] s fun r s' => r = .int .i64 ((fxP l n x).1 : Nat) ∧ Rd s' hi a v l (fxP l n x).2 ∧ But a s s' := by
  refine Cv_of hf.code ?_
  have h0 : (Tr.ofList (.e : Fr) 0 [ptr a 0, .int .i64 (n : Nat)]).get 0 = some (ptr a 0) := rfl
  have h1 : (Tr.ofList (.e : Fr) 0 [ptr a 0, .int .i64 (n : Nat)]).get 1 = some (.int .i64 (n : Nat)) := rfl
  generalize (Tr.ofList (.e : Fr) 0 [ptr a 0, .int .i64 (n : Nat)]) = fr0 at h0 h1
  unfold Code._tithing_tithingref26_reader_number
  refine W_seq (W_region (by simp only [sims, Int.reduceEq, Nat.reduceEqDiff]; rfl) ?_)
  first | refine W_seq (W_opsM (Wo_run (by simp only [sims, Int.reduceEq, Nat.reduceEqDiff, h0, h1]; rfl) (Wo_call hC._tithing_tithingref26_reader_bytes.prim (by simp only [sims, Int.reduceEq, Nat.reduceEqDiff, h0, h1]; try rfl) ((bytes_run hC hC._tithing_tithingref26_reader_bytes R (n := n) (by omega)).mono ?_)))) | refine W_seq (W_ops (Wo_run (by simp only [sims, Int.reduceEq, Nat.reduceEqDiff, h0, h1]; rfl) (Wo_call hC._tithing_tithingref26_reader_bytes.prim (by simp only [sims, Int.reduceEq, Nat.reduceEqDiff, h0, h1]; try rfl) ((bytes_run hC hC._tithing_tithingref26_reader_bytes R (n := n) (by omega)).mono ?_))))
  rintro w s2 ⟨R2, B2, M2⟩
  have hlen := tkP_len l n x
  refine Wo_all (by simp only [sims, Int.reduceEq, Nat.reduceEqDiff]; rfl) ?_
  refine W_seq (W_region (by simp only [sims, Int.reduceEq, Nat.reduceEqDiff]; rfl) ?_)
  refine W_seq (W_seq (W_region (by simp only [sims, Int.reduceEq, Nat.reduceEqDiff]; rfl) ?_))
  refine W_block (number_loop (m := (tkP l n x).1) (by omega) M2.1 (a0 := ptr a 0) (by simp only [sims, Int.reduceEq, Nat.reduceEqDiff, h0]) (by simp only [sims, Int.reduceEq, Nat.reduceEqDiff, h1, hlen]) (by simp only [sims, Int.reduceEq, Nat.reduceEqDiff]) (by simp only [sims, Int.reduceEq, Nat.reduceEqDiff]) (by simp only [sims, Int.reduceEq, Nat.reduceEqDiff]) ?_)
  intro fr g6
  show W E _ fr s2 _
  refine W_seq (W_region (by simp only [sims, Int.reduceEq, Nat.reduceEqDiff, g6]; rfl) ?_)
  exact W_ret ⟨rfl, _, res_tmp res_nil, by simp only [sims, Int.reduceEq, Nat.reduceEqDiff, tupled]; try rfl, R2, B2⟩
theorem reffour_run (hC : Codes E) (hf : Has E f Code._tithing_tithingref26_reader_four) (R : Rd s hi a v l x) : Cv E f [ptr a 0] s fun r s' => r = .int .i64 (nmP l x).1 ∧ Rd s' hi a v l (nmP l x).2 ∧ But a s s' := by
  refine Cv_of hf.code ?_
  have h0 : (Tr.ofList (.e : Fr) 0 [ptr a 0]).get 0 = some (ptr a 0) := rfl
  generalize (Tr.ofList (.e : Fr) 0 [ptr a 0]) = fr0 at h0
  unfold Code._tithing_tithingref26_reader_four
  refine W_seq (W_region (by simp only [sims, Int.reduceEq, Nat.reduceEqDiff]; rfl) ?_)
  first | refine W_seq (W_opsM (Wo_run (by simp only [sims, Int.reduceEq, Nat.reduceEqDiff, h0]; rfl) (Wo_call hC._tithing_tithingref26_reader_number.prim (by simp only [sims, Int.reduceEq, Nat.reduceEqDiff, h0]; try rfl) ((refnumber_run hC hC._tithing_tithingref26_reader_number R (n := 4) (by decide)).mono ?_)))) | refine W_seq (W_ops (Wo_run (by simp only [sims, Int.reduceEq, Nat.reduceEqDiff, h0]; rfl) (Wo_call hC._tithing_tithingref26_reader_number.prim (by simp only [sims, Int.reduceEq, Nat.reduceEqDiff, h0]; try rfl) ((refnumber_run hC hC._tithing_tithingref26_reader_number R (n := 4) (by decide)).mono ?_))))
  rintro _ s2 ⟨rfl, R2, B2⟩
  have hlt := fxP_lt l 4 x
  have e1 : wr .i64 ((((fxP l 4 x).1 : Nat) : Int) - 2147483648) = (((fxP l 4 x).1 : Nat) : Int) - 2147483648 := wr_i64 (by omega) (by omega)
  refine Wo_all (by simp only [sims, Int.reduceEq, Nat.reduceEqDiff, e1]; rfl) ?_
  exact W_ret ⟨rfl, _, res_tmp res_nil, by simp only [sims, Int.reduceEq, Nat.reduceEqDiff, tupled]; try rfl, R2, B2⟩
theorem reftext_run (hC : Codes E) (hf : Has E f Code._tithing_tithingref26_reader_text) (R : Rd s hi a v l x) : Cv E f [ptr a 0] s fun r s' => r = strOf (txP l x).1 ∧ Rd s' hi a v l (txP l x).2 ∧ But a s s' := by
  refine Cv_of hf.code ?_
  have h0 : (Tr.ofList (.e : Fr) 0 [ptr a 0]).get 0 = some (ptr a 0) := rfl
  generalize (Tr.ofList (.e : Fr) 0 [ptr a 0]) = fr0 at h0
  unfold Code._tithing_tithingref26_reader_text
  refine W_seq (W_region (by simp only [sims, Int.reduceEq, Nat.reduceEqDiff]; rfl) ?_)
  first | refine W_seq (W_opsM (Wo_run (by simp only [sims, Int.reduceEq, Nat.reduceEqDiff, h0]; rfl) (Wo_call hC._tithing_tithingref26_reader_number.prim (by simp only [sims, Int.reduceEq, Nat.reduceEqDiff, h0]; try rfl) ((refnumber_run hC hC._tithing_tithingref26_reader_number R (n := 1) (by decide)).mono ?_)))) | refine W_seq (W_ops (Wo_run (by simp only [sims, Int.reduceEq, Nat.reduceEqDiff, h0]; rfl) (Wo_call hC._tithing_tithingref26_reader_number.prim (by simp only [sims, Int.reduceEq, Nat.reduceEqDiff, h0]; try rfl) ((refnumber_run hC hC._tithing_tithingref26_reader_number R (n := 1) (by decide)).mono ?_))))
  rintro _ s2 ⟨rfl, R2, B2⟩
  have hlt := fxP_lt l 1 x
  refine Wo_all (by simp only [sims, Int.reduceEq, Nat.reduceEqDiff]; rfl) ?_
  have d : decide ((((fxP l 1 x).1 : Nat) : Int) ≤ 31) = decide ((fxP l 1 x).1 ≤ 31) := decide_eq_decide.2 (by omega)
  first | refine W_seq (W_opsM (Wo_run (by simp only [sims, Int.reduceEq, Nat.reduceEqDiff, h0, d]; rfl) (Wo_call hC._tithing_tithingref26_reader_check.prim (by simp only [sims, Int.reduceEq, Nat.reduceEqDiff, h0, d]; try rfl) ((check_run hC._tithing_tithingref26_reader_check R2 (decide ((fxP l 1 x).1 ≤ 31)) 3).mono ?_)))) | refine W_seq (W_ops (Wo_run (by simp only [sims, Int.reduceEq, Nat.reduceEqDiff, h0, d]; rfl) (Wo_call hC._tithing_tithingref26_reader_check.prim (by simp only [sims, Int.reduceEq, Nat.reduceEqDiff, h0, d]; try rfl) ((check_run hC._tithing_tithingref26_reader_check R2 (decide ((fxP l 1 x).1 ≤ 31)) 3).mono ?_))))
  rintro _ s3 ⟨R3, B3⟩
  refine Wo_nil ?_
  show W E _ _ s3 _
  have b2 : s3.cell ⟨a, 2, none⟩ = some (.int .i64 (chkP (decide ((fxP l 1 x).1 ≤ 31)) 3 (fxP l 1 x).2).2) := R3.row.cell 2
  by_cases he : (chkP (decide ((fxP l 1 x).1 ≤ 31)) 3 (fxP l 1 x).2).2 = 0
  · have hle : (fxP l 1 x).1 ≤ 31 := by
      by_cases hq : (fxP l 1 x).1 ≤ 31
      · exact hq
      · rw [decide_eq_false hq, chkP_false] at he
        exact absurd he (failP_no _)
    have ht : txP l x = tkP l (fxP l 1 x).1 (fxP l 1 x).2 := by unfold txP; rw [if_neg (by omega)]
    rw [decide_eq_true hle, chkP_true] at R3 b2 he
    rw [ht]
    refine W_seq (W_seq (W_region (by simp only [sims, Int.reduceEq, Nat.reduceEqDiff, h0, b2, nilOk_ptr, he]; rfl) ?_))
    refine W_else (by simp only [sims, Int.reduceEq, Nat.reduceEqDiff]) (W_skip ?_)
    first | refine W_seq (W_opsM (Wo_run (by simp only [sims, Int.reduceEq, Nat.reduceEqDiff, h0]; rfl) (Wo_call hC._tithing_tithingref26_reader_bytes.prim (by simp only [sims, Int.reduceEq, Nat.reduceEqDiff, h0]; try rfl) ((bytes_run hC hC._tithing_tithingref26_reader_bytes R3 (n := (fxP l 1 x).1) (by omega)).mono ?_)))) | refine W_seq (W_ops (Wo_run (by simp only [sims, Int.reduceEq, Nat.reduceEqDiff, h0]; rfl) (Wo_call hC._tithing_tithingref26_reader_bytes.prim (by simp only [sims, Int.reduceEq, Nat.reduceEqDiff, h0]; try rfl) ((bytes_run hC hC._tithing_tithingref26_reader_bytes R3 (n := (fxP l 1 x).1) (by omega)).mono ?_))))
    rintro w s4 ⟨R4, B4, M4⟩
    refine Wo_op (v := strOf (tkP l (fxP l 1 x).1 (fxP l 1 x).2).1) (s' := s4) (convBS_of (by simp only [sims, Int.reduceEq, Nat.reduceEqDiff]) M4.1 _ _) ?_
    refine Wo_all (by simp only [sims, Int.reduceEq, Nat.reduceEqDiff]; rfl) ?_
    exact W_ret ⟨rfl, _, res_tmp res_nil, by simp only [sims, Int.reduceEq, Nat.reduceEqDiff, tupled]; try rfl, R4, (B2.trans B3).trans B4⟩
  · have ht : txP l x = ([], chkP (decide ((fxP l 1 x).1 ≤ 31)) 3 (fxP l 1 x).2) := by
      unfold txP
      by_cases hq : (fxP l 1 x).1 ≤ 31
      · rw [decide_eq_true hq, chkP_true] at he ⊢
        rw [if_neg (by omega), fxP_no he, tkP_zero he]
      · rw [decide_eq_false hq, chkP_false, if_pos (by omega)]
    rw [ht]
    have d2 : decide ((chkP (decide ((fxP l 1 x).1 ≤ 31)) 3 (fxP l 1 x).2).2 = 0) = false := decide_eq_false he
    refine W_seq (W_seq (W_region (by simp only [sims, Int.reduceEq, Nat.reduceEqDiff, h0, b2, nilOk_ptr, d2]; rfl) ?_))
    refine W_then (by simp only [sims, Int.reduceEq, Nat.reduceEqDiff]) ?_
    refine W_seq (W_region (by simp only [sims, Int.reduceEq, Nat.reduceEqDiff]; rfl) ?_)
    exact W_ret ⟨rfl, _, res_tmp res_nil, by simp only [sims, Int.reduceEq, Nat.reduceEqDiff, tupled]; try rfl, R3, B2.trans B3⟩
theorem sized_run (hC : Codes E) (hf : Has E f Code._tithing_tithingref26_reader_sized) (R : Rd s hi a v l x) {n : Nat} (hn : n ≤ 65535) : Cv E f [ptr a 0, .int .i64 (n : Nat)] s fun r s' => Rd s' hi a v l (lgP l n x).2 ∧ But a s s' ∧ Mid s' s.next s'.next 1 r ((lgP l n x).1.map ofByte) := by
  refine Cv_of hf.code ?_
  have h0 : (Tr.ofList (.e : Fr) 0 [ptr a 0, .int .i64 (n : Nat)]).get 0 = some (ptr a 0) := rfl
  have h1 : (Tr.ofList (.e : Fr) 0 [ptr a 0, .int .i64 (n : Nat)]).get 1 = some (.int .i64 (n : Nat)) := rfl
  generalize (Tr.ofList (.e : Fr) 0 [ptr a 0, .int .i64 (n : Nat)]) = fr0 at h0 h1
  unfold Code._tithing_tithingref26_reader_sized
  refine W_seq (W_region (by simp only [sims, Int.reduceEq, Nat.reduceEqDiff]; rfl) ?_)
  first | refine W_seq (W_opsM (Wo_run (by simp only [sims, Int.reduceEq, Nat.reduceEqDiff, h0]; rfl) (Wo_call hC._tithing_tithingref26_reader_number.prim (by simp only [sims, Int.reduceEq, Nat.reduceEqDiff, h0]; try rfl) ((refnumber_run hC hC._tithing_tithingref26_reader_number R (n := 2) (by decide)).mono ?_)))) | refine W_seq (W_ops (Wo_run (by simp only [sims, Int.reduceEq, Nat.reduceEqDiff, h0]; rfl) (Wo_call hC._tithing_tithingref26_reader_number.prim (by simp only [sims, Int.reduceEq, Nat.reduceEqDiff, h0]; try rfl) ((refnumber_run hC hC._tithing_tithingref26_reader_number R (n := 2) (by decide)).mono ?_))))
  rintro _ s2 ⟨rfl, R2, B2⟩
  have hlt := fxP_lt l 2 x
  refine Wo_all (by simp only [sims, Int.reduceEq, Nat.reduceEqDiff]; rfl) ?_
  have d : decide ((((fxP l 2 x).1 : Nat) : Int) ≤ ((n : Nat) : Int)) = decide ((fxP l 2 x).1 ≤ n) := decide_eq_decide.2 (by omega)
  first | refine W_seq (W_opsM (Wo_run (by simp only [sims, Int.reduceEq, Nat.reduceEqDiff, h0, h1, d]; rfl) (Wo_call hC._tithing_tithingref26_reader_check.prim (by simp only [sims, Int.reduceEq, Nat.reduceEqDiff, h0, h1, d]; try rfl) ((check_run hC._tithing_tithingref26_reader_check R2 (decide ((fxP l 2 x).1 ≤ n)) 3).mono ?_)))) | refine W_seq (W_ops (Wo_run (by simp only [sims, Int.reduceEq, Nat.reduceEqDiff, h0, h1, d]; rfl) (Wo_call hC._tithing_tithingref26_reader_check.prim (by simp only [sims, Int.reduceEq, Nat.reduceEqDiff, h0, h1, d]; try rfl) ((check_run hC._tithing_tithingref26_reader_check R2 (decide ((fxP l 2 x).1 ≤ n)) 3).mono ?_))))
  rintro _ s3 ⟨R3, B3⟩
  refine Wo_nil ?_
  show W E _ _ s3 _
  have b2 : s3.cell ⟨a, 2, none⟩ = some (.int .i64 (chkP (decide ((fxP l 2 x).1 ≤ n)) 3 (fxP l 2 x).2).2) := R3.row.cell 2
  by_cases he : (chkP (decide ((fxP l 2 x).1 ≤ n)) 3 (fxP l 2 x).2).2 = 0
  · have hle : (fxP l 2 x).1 ≤ n := by
      by_cases hq : (fxP l 2 x).1 ≤ n
      · exact hq
      · rw [decide_eq_false hq, chkP_false] at he
        exact absurd he (failP_no _)
    have ht : lgP l n x = tkP l (fxP l 2 x).1 (fxP l 2 x).2 := by unfold lgP; rw [if_neg (by omega)]
    rw [decide_eq_true hle, chkP_true] at R3 b2 he
    rw [ht]
    refine W_seq (W_seq (W_region (by simp only [sims, Int.reduceEq, Nat.reduceEqDiff, h0, b2, nilOk_ptr, he]; rfl) ?_))
    refine W_else (by simp only [sims, Int.reduceEq, Nat.reduceEqDiff]) (W_skip ?_)
    first | refine W_seq (W_opsM (Wo_run (by simp only [sims, Int.reduceEq, Nat.reduceEqDiff, h0]; rfl) (Wo_call hC._tithing_tithingref26_reader_bytes.prim (by simp only [sims, Int.reduceEq, Nat.reduceEqDiff, h0]; try rfl) ((bytes_run hC hC._tithing_tithingref26_reader_bytes R3 (n := (fxP l 2 x).1) (by omega)).mono ?_)))) | refine W_seq (W_ops (Wo_run (by simp only [sims, Int.reduceEq, Nat.reduceEqDiff, h0]; rfl) (Wo_call hC._tithing_tithingref26_reader_bytes.prim (by simp only [sims, Int.reduceEq, Nat.reduceEqDiff, h0]; try rfl) ((bytes_run hC hC._tithing_tithingref26_reader_bytes R3 (n := (fxP l 2 x).1) (by omega)).mono ?_))))
    rintro w s4 ⟨R4, B4, M4⟩
    refine Wo_all (by simp only [sims, Int.reduceEq, Nat.reduceEqDiff]; rfl) ?_
    refine W_ret ⟨rfl, _, res_tmp res_nil, R4, (B2.trans B3).trans B4, ?_⟩
    simp only [sims, Int.reduceEq, Nat.reduceEqDiff, tupled]
    exact ⟨M4.1, fun q m c e => Nat.le_trans (B2.trans B3).1 (M4.2 q m c e)⟩
  · have ht : lgP l n x = ([], chkP (decide ((fxP l 2 x).1 ≤ n)) 3 (fxP l 2 x).2) := by
      unfold lgP
      by_cases hq : (fxP l 2 x).1 ≤ n
      · rw [decide_eq_true hq, chkP_true] at he ⊢
        rw [if_neg (by omega), fxP_no he, tkP_zero he]
      · rw [decide_eq_false hq, chkP_false, if_pos (by omega)]
    rw [ht]
    have d2 : decide ((chkP (decide ((fxP l 2 x).1 ≤ n)) 3 (fxP l 2 x).2).2 = 0) = false := decide_eq_false he
    refine W_seq (W_seq (W_region (by simp only [sims, Int.reduceEq, Nat.reduceEqDiff, h0, b2, nilOk_ptr, d2]; rfl) ?_))
    refine W_then (by simp only [sims, Int.reduceEq, Nat.reduceEqDiff]) ?_
    refine W_seq (W_region (by simp only [sims, Int.reduceEq, Nat.reduceEqDiff]; rfl) ?_)
    refine W_ret ⟨rfl, _, res_tmp res_nil, R3, B2.trans B3, ?_⟩
    simp only [sims, Int.reduceEq, Nat.reduceEqDiff, tupled]
    exact ⟨.nil, fun q m c e => by cases e⟩
theorem refend_run (hC : Codes E) (hf : Has E f Code._tithing_tithingref26_reader_end) (R : Rd s hi a v l x) : Cv E f [ptr a 0] s fun r s' => r = .int .i64 (enP l x).2 ∧ Rd s' hi a v l (enP l x) ∧ But a s s' := by
  obtain ⟨p, c, rfl⟩ := R.slice
  refine Cv_of hf.code ?_
  have h0 : (Tr.ofList (.e : Fr) 0 [ptr a 0]).get 0 = some (ptr a 0) := rfl
  generalize (Tr.ofList (.e : Fr) 0 [ptr a 0]) = fr0 at h0
  unfold Code._tithing_tithingref26_reader_end
  have c0 : s.cell ⟨a, 0, none⟩ = some (.slice p l.length c) := R.row.cell 0
  have c1 : s.cell ⟨a, 1, none⟩ = some (.int .i64 (x.1 : Nat)) := R.row.cell 1
  have d : decide (((x.1 : Nat) : Int) = ((l.length : Nat) : Int)) = decide (x.1 = l.length) := decide_eq_decide.2 (by omega)
  refine W_seq (W_region (by simp only [sims, Int.reduceEq, Nat.reduceEqDiff]; rfl) ?_)
  first | refine W_seq (W_opsM (Wo_run (by simp only [sims, Int.reduceEq, Nat.reduceEqDiff, h0, c0, c1, nilOk_ptr, lenL_eq, Int.ofNat_eq_natCast, d]; rfl) (Wo_call hC._tithing_tithingref26_reader_check.prim (by simp only [sims, Int.reduceEq, Nat.reduceEqDiff, h0, c0, c1, nilOk_ptr, lenL_eq, Int.ofNat_eq_natCast, d]; try rfl) ((check_run hC._tithing_tithingref26_reader_check R (decide (x.1 = l.length)) 3).mono ?_)))) | refine W_seq (W_ops (Wo_run (by simp only [sims, Int.reduceEq, Nat.reduceEqDiff, h0, c0, c1, nilOk_ptr, lenL_eq, Int.ofNat_eq_natCast, d]; rfl) (Wo_call hC._tithing_tithingref26_reader_check.prim (by simp only [sims, Int.reduceEq, Nat.reduceEqDiff, h0, c0, c1, nilOk_ptr, lenL_eq, Int.ofNat_eq_natCast, d]; try rfl) ((check_run hC._tithing_tithingref26_reader_check R (decide (x.1 = l.length)) 3).mono ?_))))
  rintro _ s3 ⟨R3, B3⟩
  refine Wo_nil ?_
  show W E _ _ s3 _
  have hc : chkP (decide (x.1 = l.length)) 3 x = enP l x := by
    unfold enP
    by_cases hq : x.1 = l.length
    · rw [decide_eq_true hq, chkP_true, if_pos hq]
    · rw [decide_eq_false hq, chkP_false, if_neg hq]
  rw [hc] at R3
  have b2 : s3.cell ⟨a, 2, none⟩ = some (.int .i64 (enP l x).2) := R3.row.cell 2
  refine W_seq (W_region (by simp only [sims, Int.reduceEq, Nat.reduceEqDiff, h0, b2, nilOk_ptr]; rfl) ?_)
  exact W_ret ⟨rfl, _, res_tmp res_nil, by simp only [sims, Int.reduceEq, Nat.reduceEqDiff, tupled]; try rfl, R3, B3⟩
end
end
end Go.Ev
