/-
  Rights as bytes, the document's side.
-/
import Derived.Test.YtmpckglmfklfiaaGreatDoorCdRef
set_option linter.unusedVariables false
set_option linter.unusedSimpArgs false
namespace Go.Ev
noncomputable section
section
variable {E : Env} {f : FuncId} {s : St} {o g fo fg fa : Int} {b : Bool}
theorem bits_run (hf : Has E f Code.tithingref21_bits) (n : Int) : Cv E f [.int .i64 n] s fun v s' => v = .bool (decide (0 ≤ n ∧ n ≤ 7)) ∧ s' = s := by
  refine Cv_of hf.code ?_
  have h0 : (Tr.ofList (.e : Fr) 0 [.int .i64 n]).get 0 = some (.int .i64 n) := rfl
  generalize (Tr.ofList (.e : Fr) 0 [.int .i64 n]) = fr0 at h0
  unfold Code.tithingref21_bits
  refine W_seq (W_region (by simp only [sims, Int.reduceEq, Nat.reduceEqDiff]; rfl) ?_)
  cases e1 : decide (0 ≤ n) <;> cases e2 : decide (n ≤ 7) <;>
    exact W_seq (W_region (by simp only [sims, Int.reduceEq, Nat.reduceEqDiff, h0, e1, e2]; rfl) (W_ret ⟨rfl, [_], rfl, by simp only [sims, Int.reduceEq, Nat.reduceEqDiff]; simp only [decide_eq_true_eq, decide_eq_false_iff_not] at e1 e2; simp [e1, e2, tupled], rfl⟩))
theorem four_run (hf : Has E f Code.tithingref25_four) {n : Nat} (hn : n < 4294967296) : Cv E f [.int .i64 (n : Nat)] s fun r s' => Gr s' s.next 1 r ((beB 4 n).map ofByte) ∧ Low s.next s s' := by
  refine Cv_of hf.code ?_
  have h0 : (Tr.ofList (.e : Fr) 0 [.int .i64 (n : Nat)]).get 0 = some (.int .i64 (n : Nat)) := rfl
  generalize (Tr.ofList (.e : Fr) 0 [.int .i64 (n : Nat)]) = fr0 at h0
  unfold Code.tithingref25_four
  have e1 : binOp .shr (.int .i64 (n : Nat)) (.int .u64 24) = some (.int .i64 ((n / 16777216 : Nat) : Int)) := shr_nat .i64 .u64 n 24 (by decide)
  have e2 : binOp .shr (.int .i64 (n : Nat)) (.int .u64 16) = some (.int .i64 ((n / 65536 : Nat) : Int)) := shr_nat .i64 .u64 n 16 (by decide)
  have e3 : binOp .shr (.int .i64 (n : Nat)) (.int .u64 8) = some (.int .i64 ((n / 256 : Nat) : Int)) := shr_nat .i64 .u64 n 8 (by decide)
  have w : ∀ m : Nat, Value.int .u8 (wr .u8 (m : Int)) = ofByte (UInt8.ofNat m) := fun m => by rw [wr_u8_nat, ofByte_ofNat]
  have hb : beB 4 n = [UInt8.ofNat (n / 16777216), UInt8.ofNat (n / 65536), UInt8.ofNat (n / 256), UInt8.ofNat n] := by
    show [UInt8.ofNat (n / 256 ^ 3), UInt8.ofNat (n / 256 ^ 2), UInt8.ofNat (n / 256 ^ 1), UInt8.ofNat (n / 256 ^ 0)] = _
    rw [Nat.pow_zero, Nat.div_one]
  refine W_seq (W_region (by simp only [sims, Int.reduceEq, Nat.reduceEqDiff]; rfl) ?_)
  refine W_seq (W_ops (Wo_run (l := [_, _, _, _, _, _, _, _, _, _, _]) (by simp only [sims, Int.reduceEq, Nat.reduceEqDiff, h0, e1, e2, e3]; rfl) ?_))
  refine Wo_buildSlice (size := 1) (lo := s.next) (cs := (beB 4 n).map ofByte) (by simp only [sims, Int.reduceEq, Nat.reduceEqDiff]; rw [w, w, w, w, hb]; rfl) (by rw [List.length_map, beB_length]) (Nat.le_add_right _ _) (by rw [next_skip]; omega) (by decide) ?_
  rintro s2 ⟨-, g1⟩ g2 -
  refine Wo_all (by simp only [sims, Int.reduceEq, Nat.reduceEqDiff]; rfl) (W_ret ⟨rfl, _, res_tmp res_nil, ?_, ((Low.self s).skip 13).trans g2⟩)
  simp only [sims, Int.reduceEq, Nat.reduceEqDiff, tupled]
  exact g1.weak (Nat.le_add_right _ _)
theorem refValid_run (hC : Codes E) (hf : Has E f Code.tithingref21_Valid) : Cv E f [.agg ⟨rightsC o g fo fg fa b⟩] s fun v s' => v = .bool (decide (validR o g fo fg fa)) ∧ Low s.next s s' := by
  refine Cv_of hf.code ?_
  have h0 : (Tr.ofList (.e : Fr) 0 [.agg ⟨rightsC o g fo fg fa b⟩]).get 0 = some (.agg ⟨rightsC o g fo fg fa b⟩) := rfl
  generalize (Tr.ofList (.e : Fr) 0 [.agg ⟨rightsC o g fo fg fa b⟩]) = fr0 at h0
  have hv : vcells (.agg ⟨rightsC o g fo fg fa b⟩) = rightsC o g fo fg fa b := rfl
  have hs : storable (.agg ⟨rightsC o g fo fg fa b⟩) = true := rfl
  unfold Code.tithingref21_Valid
  refine W_seq (W_region (by simp only [sims, Int.reduceEq, Nat.reduceEqDiff, h0, hv, hs]; rfl) ?_)
  have hlow : Low s.next s ((s.skip 2).set s.next (.cells (rightsC o g fo fg fa b) 0 .ex)) := ((Low.self s).skip 2).set (Nat.le_refl _) _
  have c0 := cell_set (s.skip 2) s.next 0 0 (rightsC o g fo fg fa b) .ex
  have c1 := cell_set (s.skip 2) s.next 1 0 (rightsC o g fo fg fa b) .ex
  have c2 := cell_set (s.skip 2) s.next 2 0 (rightsC o g fo fg fa b) .ex
  have c3 := cell_set (s.skip 2) s.next 3 0 (rightsC o g fo fg fa b) .ex
  have c4 := cell_set (s.skip 2) s.next 4 0 (rightsC o g fo fg fa b) .ex
  generalize (s.skip 2).set s.next (.cells (rightsC o g fo fg fa b) 0 .ex) = s1 at hlow c0 c1 c2 c3 c4
  have c0 : s1.cell ⟨s.next, 0, none⟩ = some (.int .i64 o) := c0
  have c1 : s1.cell ⟨s.next, 1, none⟩ = some (.int .i64 g) := c1
  have c2 : s1.cell ⟨s.next, 2, none⟩ = some (.int .i64 fo) := c2
  have c3 : s1.cell ⟨s.next, 3, none⟩ = some (.int .i64 fg) := c3
  have c4 : s1.cell ⟨s.next, 4, none⟩ = some (.int .i64 fa) := c4
  have fin : ∀ (fr : Fr) (q : Bool), fr.get 2 = some (.bool q) → q = decide (validR o g fo fg fa) →
      W E .ret fr s1 fun e fr s' => isExit e = false ∧ ∃ l, optL (oneRes fr s') [.tmp 2] = some l ∧ tupled l = .bool (decide (validR o g fo fg fa)) ∧ Low s.next s s' := by
    intro fr q h1 h2
    exact W_ret ⟨rfl, _, res_tmp res_nil, by rw [h1, ← h2]; rfl, hlow⟩
  refine W_seq (W_opsM ?_)
  cases e1 : decide ((0 : Int) ≤ o) with
  | false =>
    rw [decide_eq_false_iff_not] at e1
    refine Wo_run (by simp only [sims, Int.reduceEq, Nat.reduceEqDiff, c0, c1, c2, decide_eq_false e1]; rfl) (Wo_gf (by simp only [sims, Int.reduceEq, Nat.reduceEqDiff]) (Wo_run (by simp only [sims, Int.reduceEq, Nat.reduceEqDiff]; rfl) (Wo_gf (by simp only [sims, Int.reduceEq, Nat.reduceEqDiff]) (Wo_run (by simp only [sims, Int.reduceEq, Nat.reduceEqDiff]; rfl) (Wo_gf (by simp only [sims, Int.reduceEq, Nat.reduceEqDiff]) (Wo_all (by simp only [sims, Int.reduceEq, Nat.reduceEqDiff]; rfl) (fin _ false (by simp only [sims, Int.reduceEq, Nat.reduceEqDiff]) (by symm; rw [decide_eq_false_iff_not]; unfold validR; omega))))))))
  | true =>
  rw [decide_eq_true_eq] at e1
  cases e2 : decide ((0 : Int) ≤ g) with
  | false =>
    rw [decide_eq_false_iff_not] at e2
    refine Wo_run (by simp only [sims, Int.reduceEq, Nat.reduceEqDiff, c0, c1, c2, decide_eq_true e1, decide_eq_false e2]; rfl) (Wo_gf (by simp only [sims, Int.reduceEq, Nat.reduceEqDiff]) (Wo_run (by simp only [sims, Int.reduceEq, Nat.reduceEqDiff]; rfl) (Wo_gf (by simp only [sims, Int.reduceEq, Nat.reduceEqDiff]) (Wo_run (by simp only [sims, Int.reduceEq, Nat.reduceEqDiff]; rfl) (Wo_gf (by simp only [sims, Int.reduceEq, Nat.reduceEqDiff]) (Wo_all (by simp only [sims, Int.reduceEq, Nat.reduceEqDiff]; rfl) (fin _ false (by simp only [sims, Int.reduceEq, Nat.reduceEqDiff]) (by symm; rw [decide_eq_false_iff_not]; unfold validR; omega))))))))
  | true =>
  rw [decide_eq_true_eq] at e2
  refine Wo_run (by simp only [sims, Int.reduceEq, Nat.reduceEqDiff, c0, c1, c2, decide_eq_true e1, decide_eq_true e2]; rfl) (Wo_gt (by simp only [sims, Int.reduceEq, Nat.reduceEqDiff]) (Wo_call hC.tithingref21_bits.prim (by simp only [sims, Int.reduceEq, Nat.reduceEqDiff]; rfl) ((bits_run hC.tithingref21_bits _).mono ?_)))
  rintro _ _ ⟨rfl, hs1⟩
  rw [hs1]; clear hs1
  cases e3 : decide ((0 : Int) ≤ fo ∧ fo ≤ 7) with
  | false =>
    rw [decide_eq_false_iff_not] at e3
    refine Wo_run (by simp only [sims, Int.reduceEq, Nat.reduceEqDiff]; rfl) (Wo_gf (by simp only [sims, Int.reduceEq, Nat.reduceEqDiff]) (Wo_run (by simp only [sims, Int.reduceEq, Nat.reduceEqDiff]; rfl) (Wo_gf (by simp only [sims, Int.reduceEq, Nat.reduceEqDiff]) (Wo_all (by simp only [sims, Int.reduceEq, Nat.reduceEqDiff]; rfl) (fin _ false (by simp only [sims, Int.reduceEq, Nat.reduceEqDiff]) (by symm; rw [decide_eq_false_iff_not]; unfold validR; omega))))))
  | true =>
  rw [decide_eq_true_eq] at e3
  refine Wo_run (by simp only [sims, Int.reduceEq, Nat.reduceEqDiff, c3]; rfl) (Wo_gt (by simp only [sims, Int.reduceEq, Nat.reduceEqDiff]) (Wo_call hC.tithingref21_bits.prim (by simp only [sims, Int.reduceEq, Nat.reduceEqDiff]; rfl) ((bits_run hC.tithingref21_bits _).mono ?_)))
  rintro _ _ ⟨rfl, hs1⟩
  rw [hs1]; clear hs1
  cases e4 : decide ((0 : Int) ≤ fg ∧ fg ≤ 7) with
  | false =>
    rw [decide_eq_false_iff_not] at e4
    refine Wo_run (by simp only [sims, Int.reduceEq, Nat.reduceEqDiff]; rfl) (Wo_gf (by simp only [sims, Int.reduceEq, Nat.reduceEqDiff]) (Wo_all (by simp only [sims, Int.reduceEq, Nat.reduceEqDiff]; rfl) (fin _ false (by simp only [sims, Int.reduceEq, Nat.reduceEqDiff]) (by symm; rw [decide_eq_false_iff_not]; unfold validR; omega))))
  | true =>
  rw [decide_eq_true_eq] at e4
  refine Wo_run (by simp only [sims, Int.reduceEq, Nat.reduceEqDiff, c4]; rfl) (Wo_gt (by simp only [sims, Int.reduceEq, Nat.reduceEqDiff]) (Wo_call hC.tithingref21_bits.prim (by simp only [sims, Int.reduceEq, Nat.reduceEqDiff]; rfl) ((bits_run hC.tithingref21_bits _).mono ?_)))
  rintro _ _ ⟨rfl, hs1⟩
  rw [hs1]; clear hs1
  refine Wo_all (by simp only [sims, Int.reduceEq, Nat.reduceEqDiff]; rfl) (fin _ (decide ((0 : Int) ≤ fa ∧ fa ≤ 7)) (by simp only [sims, Int.reduceEq, Nat.reduceEqDiff]) ?_)
  rw [decide_eq_decide]
  unfold validR
  omega
theorem refPutRights_run (hC : Codes E) (hf : Has E f Code.tithingref25_PutRights) : Cv E f [.agg ⟨rightsC o g fo fg fa b⟩] s fun r s' =>
    (okR o g fo fg fa ∧ ∃ x, r = .tuple ⟨[x, .int .i64 0]⟩ ∧ Gr s' s.next 1 x ((bytesR o g fo fg fa b).map ofByte) ∧ Low s.next s s') ∨ (¬ okR o g fo fg fa ∧ r = .tuple ⟨[.slice none 0 0, .int .i64 2]⟩ ∧ Low s.next s s') := by
  refine Cv_of hf.code ?_
  have h0 : (Tr.ofList (.e : Fr) 0 [.agg ⟨rightsC o g fo fg fa b⟩]).get 0 = some (.agg ⟨rightsC o g fo fg fa b⟩) := rfl
  generalize (Tr.ofList (.e : Fr) 0 [.agg ⟨rightsC o g fo fg fa b⟩]) = fr0 at h0
  unfold Code.tithingref25_PutRights
  refine W_seq (W_ops (Wo_box (lo := s.next) (s0 := s) (by simp only [sims, Int.reduceEq, Nat.reduceEqDiff, h0]; rfl) rfl rfl ((Low.self s).skip 3) (Nat.le_add_right _ _) (by rw [next_skip]; omega) fun s1 B1 _ _ => Wo_all (by simp only [sims, Int.reduceEq, Nat.reduceEqDiff]; rfl) ?_))
  have B1 : Boxed s.next s s1 s.next (rightsC o g fo fg fa b) := B1
  have cell : ∀ {t : St} {i : Nat} {v : Value}, Boxed s.next s t s.next (rightsC o g fo fg fa b) → (rightsC o g fo fg fa b)[i]? = some v → t.cell ⟨s.next, i, none⟩ = some v := fun h e => h.cell.trans e
  have bad : ∀ (fr : Fr) (s' : St), fr.get 2 = some (.slice none 0 0) → fr.get 3 = some (.int .i64 2) → ¬ okR o g fo fg fa → Low s.next s s' →
      isExit Ex.ret = false ∧ ∃ l, optL (oneRes fr s') [.tmp 2, .tmp 3] = some l ∧ ((okR o g fo fg fa ∧ ∃ x, tupled l = .tuple ⟨[x, .int .i64 0]⟩ ∧ Gr s' s.next 1 x ((bytesR o g fo fg fa b).map ofByte) ∧ Low s.next s s') ∨ (¬ okR o g fo fg fa ∧ tupled l = .tuple ⟨[.slice none 0 0, .int .i64 2]⟩ ∧ Low s.next s s')) := by
    intro fr s' g4 g5 hb hl
    exact ⟨rfl, _, res_tmp (res_tmp res_nil), .inr ⟨hb, by rw [g4, g5]; rfl, hl⟩⟩
  refine W_seq (W_seq (W_opsM (Wo_run (by simp only [sims, Int.reduceEq, Nat.reduceEqDiff, B1.row (n := 6) rfl]; rfl) (Wo_call hC.tithingref21_Valid.prim (by simp only [sims, Int.reduceEq, Nat.reduceEqDiff]; try rfl) ((refValid_run hC hC.tithingref21_Valid).mono ?_)))))
  rintro _ s2 ⟨rfl, l12⟩
  have B2 := B1.go l12
  have c0 := cell (i := 0) B2 rfl
  have c1 := cell (i := 1) B2 rfl
  cases e1 : decide (validR o g fo fg fa) with
  | false =>
    rw [decide_eq_false_iff_not] at e1
    refine Wo_all (by simp only [sims, Int.reduceEq, Nat.reduceEqDiff]; rfl) (W_then (by simp only [sims, Int.reduceEq, Nat.reduceEqDiff]) ?_)
    exact W_seq (W_region (by simp only [sims, Int.reduceEq, Nat.reduceEqDiff]; rfl) (W_ret (bad _ _ (by simp only [sims, Int.reduceEq, Nat.reduceEqDiff]) (by simp only [sims, Int.reduceEq, Nat.reduceEqDiff]) (fun h => e1 h.1) B2.low)))
  | true =>
  rw [decide_eq_true_eq] at e1
  cases e2 : decide ((4294967295 : Int) < o) with
  | true =>
    rw [decide_eq_true_eq] at e2
    refine Wo_all (by simp only [sims, Int.reduceEq, Nat.reduceEqDiff, c0, decide_eq_true e2]; rfl) (W_then (by simp only [sims, Int.reduceEq, Nat.reduceEqDiff]) ?_)
    exact W_seq (W_region (by simp only [sims, Int.reduceEq, Nat.reduceEqDiff]; rfl) (W_ret (bad _ _ (by simp only [sims, Int.reduceEq, Nat.reduceEqDiff]) (by simp only [sims, Int.reduceEq, Nat.reduceEqDiff]) (fun h => by have := h.2.1; omega) B2.low)))
  | false =>
  rw [decide_eq_false_iff_not] at e2
  cases e3 : decide ((4294967295 : Int) < g) with
  | true =>
    rw [decide_eq_true_eq] at e3
    refine Wo_all (by simp only [sims, Int.reduceEq, Nat.reduceEqDiff, c0, c1, decide_eq_false e2, decide_eq_true e3]; rfl) (W_then (by simp only [sims, Int.reduceEq, Nat.reduceEqDiff]) ?_)
    exact W_seq (W_region (by simp only [sims, Int.reduceEq, Nat.reduceEqDiff]; rfl) (W_ret (bad _ _ (by simp only [sims, Int.reduceEq, Nat.reduceEqDiff]) (by simp only [sims, Int.reduceEq, Nat.reduceEqDiff]) (fun h => by have := h.2.2; omega) B2.low)))
  | false =>
  rw [decide_eq_false_iff_not] at e3
  refine Wo_all (by simp only [sims, Int.reduceEq, Nat.reduceEqDiff, c0, c1, decide_eq_false e2, decide_eq_false e3]; rfl) (W_else (by simp only [sims, Int.reduceEq, Nat.reduceEqDiff]) (W_skip ?_))
  have hok : okR o g fo fg fa := ⟨e1, by omega, by omega⟩
  have c5 : s2.cell ⟨s.next, 5, none⟩ = some (.bool b) := cell B2 rfl
  have c2 : s2.cell ⟨s.next, 2, none⟩ = some (.int .i64 fo) := cell B2 rfl
  have c3 : s2.cell ⟨s.next, 3, none⟩ = some (.int .i64 fg) := cell B2 rfl
  have c4 : s2.cell ⟨s.next, 4, none⟩ = some (.int .i64 fa) := cell B2 rfl
  have small : ∀ n : Int, 0 ≤ n ∧ n ≤ 7 → Value.int .u8 (wr .u8 n) = ofByte (UInt8.ofNat n.toNat) := by
    intro n hn
    rw [ofByte_ofNat, wr_u8 (by omega) (by omega)]
    congr 1
    omega
  refine W_seq (W_region (by simp only [sims, Int.reduceEq, Nat.reduceEqDiff]; rfl) ?_)
  refine W_seq (W.cut (P := fun e fr' s' => e = .normal ∧ s' = s2 ∧ fr'.get 4 = some (ofByte (if b then 1 else 0))) ?_ rfl ?_)
  · refine W_seq (W_region (by simp only [sims, Int.reduceEq, Nat.reduceEqDiff, c5]; rfl) (W_ifb (q := b) (by simp only [sims, Int.reduceEq, Nat.reduceEqDiff]) (fun h => ?_) (fun h => ?_)))
    · exact W_region (by simp only [sims, Int.reduceEq, Nat.reduceEqDiff]; rfl) ⟨rfl, rfl, by simp only [sims, Int.reduceEq, Nat.reduceEqDiff]; rw [h]; rfl⟩
    · exact W_skip ⟨rfl, rfl, by simp only [sims, Int.reduceEq, Nat.reduceEqDiff]; rw [h]; rfl⟩
  rintro e fr5 s5 ⟨rfl, rfl, h4⟩ hk
  have k1 := hk 1 (by decide)
  simp only [sims, Int.reduceEq, Nat.reduceEqDiff] at k1
  clear hk
  show W E _ fr5 s5 _
  have v2 := small fo e1.2.2.1
  have v3 := small fg e1.2.2.2.1
  have v4 := small fa e1.2.2.2.2
  obtain ⟨on, rfl⟩ : ∃ n : Nat, o = n := ⟨o.toNat, by have := e1.1; omega⟩
  obtain ⟨gn, rfl⟩ : ∃ n : Nat, g = n := ⟨g.toNat, by have := e1.2.1; omega⟩
  refine W_seq (W_ops ?_)
  refine Wo_run (l := [_, _, _, _, _, _, _, _, _, _, _, _, _, _]) (by simp only [sims, Int.reduceEq, Nat.reduceEqDiff, k1, h4, c0, c1, c2, c3, c4]; rfl) ?_
  have l5k : Low s5.next s5 (s5.skip 21) := (Low.self s5).skip 21
  have B6 := B2.go l5k
  have hn6 : (s5.skip 21).next = s5.next + 21 := next_skip _ _
  generalize s5.skip 21 = s6 at B6 l5k hn6
  refine Wo_gen (T := [(21, .int .i64 (on : Nat)), (23, .pointer (some ⟨s.next, 1, none⟩)), (24, .int .i64 (gn : Nat)), (27, .pointer (some ⟨s.next, 2, none⟩)), (28, .int .i64 fo), (29, .int .u8 (wr .u8 fo)), (30, .pointer (some ⟨s.next, 3, none⟩)), (31, .int .i64 fg), (32, .int .u8 (wr .u8 fg)), (33, .pointer (some ⟨s.next, 4, none⟩)), (34, .int .i64 fa), (35, .int .u8 (wr .u8 fa)), (36, ofByte (if b then 1 else 0))])
    (all_cons (by simp only [sims, Int.reduceEq, Nat.reduceEqDiff]) (all_cons (by simp only [sims, Int.reduceEq, Nat.reduceEqDiff]) (all_cons (by simp only [sims, Int.reduceEq, Nat.reduceEqDiff]) (all_cons (by simp only [sims, Int.reduceEq, Nat.reduceEqDiff]) (all_cons (by simp only [sims, Int.reduceEq, Nat.reduceEqDiff]) (all_cons (by simp only [sims, Int.reduceEq, Nat.reduceEqDiff]) (all_cons (by simp only [sims, Int.reduceEq, Nat.reduceEqDiff]) (all_cons (by simp only [sims, Int.reduceEq, Nat.reduceEqDiff]) (all_cons (by simp only [sims, Int.reduceEq, Nat.reduceEqDiff]) (all_cons (by simp only [sims, Int.reduceEq, Nat.reduceEqDiff]) (all_cons (by simp only [sims, Int.reduceEq, Nat.reduceEqDiff]) (all_cons (by simp only [sims, Int.reduceEq, Nat.reduceEqDiff]) (all_cons (by simp only [sims, Int.reduceEq, Nat.reduceEqDiff]) all_nil))))))))))))) fun fr7 h7 => ?_
  have f21 := h7 _ (.head _)
  have f23 := h7 _ (.tail _ (.head _))
  have f24 := h7 _ (.tail _ (.tail _ (.head _)))
  have f27 := h7 _ (.tail _ (.tail _ (.tail _ (.head _))))
  have f28 := h7 _ (.tail _ (.tail _ (.tail _ (.tail _ (.head _)))))
  have f29 := h7 _ (.tail _ (.tail _ (.tail _ (.tail _ (.tail _ (.head _))))))
  have f30 := h7 _ (.tail _ (.tail _ (.tail _ (.tail _ (.tail _ (.tail _ (.head _)))))))
  have f31 := h7 _ (.tail _ (.tail _ (.tail _ (.tail _ (.tail _ (.tail _ (.tail _ (.head _))))))))
  have f32 := h7 _ (.tail _ (.tail _ (.tail _ (.tail _ (.tail _ (.tail _ (.tail _ (.tail _ (.head _)))))))))
  have f33 := h7 _ (.tail _ (.tail _ (.tail _ (.tail _ (.tail _ (.tail _ (.tail _ (.tail _ (.tail _ (.head _))))))))))
  have f34 := h7 _ (.tail _ (.tail _ (.tail _ (.tail _ (.tail _ (.tail _ (.tail _ (.tail _ (.tail _ (.tail _ (.head _)))))))))))
  have f35 := h7 _ (.tail _ (.tail _ (.tail _ (.tail _ (.tail _ (.tail _ (.tail _ (.tail _ (.tail _ (.tail _ (.tail _ (.head _))))))))))))
  have f36 := h7 _ (.tail _ (.tail _ (.tail _ (.tail _ (.tail _ (.tail _ (.tail _ (.tail _ (.tail _ (.tail _ (.tail _ (.tail _ (.head _)))))))))))))
  clear h7
  simp only at f21 f23 f24 f27 f28 f29 f30 f31 f32 f33 f34 f35 f36
  rw [v2] at f29
  rw [v3] at f32
  rw [v4] at f35
  have again28 : ∀ (t : St) (fr : Fr), Boxed s.next s t s.next (rightsC on gn fo fg fa b) → fr.get 27 = some (.pointer (some ⟨s.next, 2, none⟩)) → fr.get 28 = some (.int .i64 fo) → fr.get 30 = some (.pointer (some ⟨s.next, 3, none⟩)) → fr.get 31 = some (.int .i64 fg) → fr.get 33 = some (.pointer (some ⟨s.next, 4, none⟩)) → fr.get 34 = some (.int .i64 fa) →
      againOk fr t [(some 28, .load1 (.t 27), none), (some 31, .load1 (.t 30), none), (some 34, .load1 (.t 33), none)] = true := fun t fr h a1 a2 a3 a4 a5 a6 =>
    again_load1 a1 (cell (i := 2) h rfl) a2 (same_int _ _) (again_load1 a3 (cell (i := 3) h rfl) a4 (same_int _ _) (again_load1 a5 (cell (i := 4) h rfl) a6 (same_int _ _) again_nil))
  refine Wo_callA hC.tithingref25_four.prim (by simp only [sims, Int.reduceEq, Nat.reduceEqDiff, f21]; try rfl) ((four_run hC.tithingref25_four (n := on) (by omega)).mono ?_)
  rintro r22 s8 ⟨g8, l8⟩
  have B8 := B6.go l8
  refine ⟨again_load1 f23 (cell (i := 1) B8 rfl) f24 (same_int _ _) (again28 s8 fr7 B8 f27 f28 f30 f31 f33 f34), ?_⟩
  refine Wo_callA hC.tithingref25_four.prim (by simp only [sims, Int.reduceEq, Nat.reduceEqDiff, f24]; try rfl) ((four_run hC.tithingref25_four (n := gn) (by omega)).mono ?_)
  rintro r25 s9 ⟨g9, l9⟩
  have B9 := B8.go l9
  refine ⟨again28 s9 _ B9 (by simp only [sims, Int.reduceEq, Nat.reduceEqDiff, f27]) (by simp only [sims, Int.reduceEq, Nat.reduceEqDiff, f28]) (by simp only [sims, Int.reduceEq, Nat.reduceEqDiff, f30]) (by simp only [sims, Int.reduceEq, Nat.reduceEqDiff, f31]) (by simp only [sims, Int.reduceEq, Nat.reduceEqDiff, f33]) (by simp only [sims, Int.reduceEq, Nat.reduceEqDiff, f34]), ?_⟩
  have n68 := l8.2.1
  have n89 := l9.2.1
  have ns5 := B2.low.2.1
  refine Wo_appendA (lo := s6.next) (by simp only [sims, Int.reduceEq, Nat.reduceEqDiff]) (by simp only [sims, Int.reduceEq, Nat.reduceEqDiff]) (g8.low l9 (Nat.le_refl _)) (by omega) g9.sl.feed (by decide) (by simp [beB_length, room]) ?_
  rintro x10 s10 g10 l10 -
  have B10 : Boxed s.next s s10 s.next (rightsC on gn fo fg fa b) := B9.next l10 (by have := B6.lt; omega) B6.low.le
  refine ⟨again28 s10 _ B10 (by simp only [sims, Int.reduceEq, Nat.reduceEqDiff, f27]) (by simp only [sims, Int.reduceEq, Nat.reduceEqDiff, f28]) (by simp only [sims, Int.reduceEq, Nat.reduceEqDiff, f30]) (by simp only [sims, Int.reduceEq, Nat.reduceEqDiff, f31]) (by simp only [sims, Int.reduceEq, Nat.reduceEqDiff, f33]) (by simp only [sims, Int.reduceEq, Nat.reduceEqDiff, f34]), ?_⟩
  have n910 := l10.2.1
  refine Wo_buildSlice (size := 1) (lo := s5.next) (cs := [ofByte (UInt8.ofNat fo.toNat), ofByte (UInt8.ofNat fg.toNat), ofByte (UInt8.ofNat fa.toNat), ofByte (if b then 1 else 0)]) (by simp only [sims, Int.reduceEq, Nat.reduceEqDiff, f29, f32, f35, f36]; rfl) rfl (Nat.le_add_right _ _) (by omega) (by decide) ?_
  rintro s11 ⟨g11, -⟩ l11 hs11
  have g12 : Gr s11 s6.next 1 x10 ((beB 4 on).map ofByte ++ (beB 4 gn).map ofByte) := by rw [hs11]; exact g10.other _ (by omega)
  refine Wo_append (lo := s6.next) (by simp only [sims, Int.reduceEq, Nat.reduceEqDiff]) (by simp only [sims, Int.reduceEq, Nat.reduceEqDiff]) g12 (by rw [hs11, St.next_set]; omega) g11.feed (by decide) (by simp [beB_length, room]) ?_
  rintro x12 s12 g13 l12' -
  have B11 : Low s.next s s11 := B10.low.trans (l11.weak ns5)
  refine Wo_all (by simp only [sims, Int.reduceEq, Nat.reduceEqDiff]; rfl) (W_ret ⟨rfl, _, res_tmp (res_tmp res_nil), .inl ⟨hok, x12, by simp only [sims, Int.reduceEq, Nat.reduceEqDiff, tupled], ?_, B11.trans (l12'.weak (by omega))⟩⟩)
  have e : ((beB 4 on).map ofByte ++ (beB 4 gn).map ofByte) ++ [ofByte (UInt8.ofNat fo.toNat), ofByte (UInt8.ofNat fg.toNat), ofByte (UInt8.ofNat fa.toNat), ofByte (if b then 1 else 0)] = (bytesR on gn fo fg fa b).map ofByte := by
    unfold bytesR
    rw [Int.toNat_natCast, Int.toNat_natCast, List.map_append, List.map_append, List.append_assoc]
    rfl
  rw [e] at g13
  exact g13.weak (by omega)
end
end
end Go.Ev
