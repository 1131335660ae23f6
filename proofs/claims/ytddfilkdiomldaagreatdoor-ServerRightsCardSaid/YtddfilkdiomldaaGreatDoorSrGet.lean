/-
  The rights of bytes, the document's side.
-/
import Derived.Test.YtddfilkdiomldaaGreatDoorSrRef
set_option linter.unusedVariables false
set_option linter.unusedSimpArgs false
namespace Go.Ev
noncomputable section
section
variable {E : Env} {f : FuncId} {s : St}
theorem refGetRights_run (hC : Codes E) (hf : Has E f Code.tithingref25_GetRights) {hi : Nat} {v : Value} {l : List UInt8} (hhi : hi ≤ s.next) (hv : Sl s hi 1 v (l.map ofByte)) (hl : l.length ≤ 4611686018427387904) : Cv E f [v] s fun r s' => r = getRV l ∧ Low s.next s s' := by
  obtain ⟨p, m, c, rfl, hm⟩ := hv.parts
  rw [List.length_map, Nat.mul_one] at hm
  subst hm
  refine Cv_of hf.code ?_
  have h0 : (Tr.ofList (.e : Fr) 0 [.slice p l.length c]).get 0 = some (.slice p l.length c) := rfl
  generalize (Tr.ofList (.e : Fr) 0 [.slice p l.length c]) = fr0 at h0
  unfold Code.tithingref25_GetRights
  refine W_seq (W_ops (Wo_alloc (lo := s.next) (s0 := s) ((Low.self s).skip 2) (Nat.le_add_right _ _) (by rw [next_skip]; omega) fun s1 B1 _ _ => Wo_all (by simp only [sim, if_true, if_false, eq_self, Bool.false_eq_true, decide_true, decide_false, Int.reduceEq, Bool.not_true, Bool.not_false, Nat.reduceEqDiff, Nat.mul_one, Nat.zero_add, Nat.add_zero, Option.isNone_none, Option.isNone_some]; rfl) ?_))
  have B1 : Boxed s.next s s1 s.next (rightsC 0 0 0 0 0 false) := B1
  -- what is told of bytes that are no rights
  have bad : ∀ (fr : Fr) (t : St), fr.get 2 = some (ptr s.next 0) → fr.get 3 = some (.int .i64 3) → getR l = none → Boxed s.next s t s.next (rightsC 0 0 0 0 0 false) →
      isExit Ex.ret = false ∧ ∃ r, optL (oneRes fr t) [.cell 2 true 6, .tmp 3] = some r ∧ tupled r = getRV l ∧ Low s.next s t := by
    intro fr t g2 g3 hg hb
    refine ⟨rfl, _, res_cell g2 (hb.row rfl) (res_tmp res_nil), ?_, hb.low⟩
    rw [g3]
    unfold getRV
    rw [hg]; rfl
  have zput : ∀ {t : St} {cs : List Value}, cs.length = 6 → Boxed s.next s t s.next cs → ∀ vs : List Value, vs.length = 6 → ∃ u, t.put ⟨s.next, 0, none⟩ vs = some u ∧ Boxed s.next s u s.next vs := by
    intro t cs hcs hb vs hvs
    obtain ⟨u, h1, h2, _⟩ := hb.put (o := 0) (vs := vs) (by omega)
    refine ⟨u, h1, ?_⟩
    have : splice cs 0 vs = vs := by
      rw [splice_eq, List.take_zero, List.nil_append, List.drop_of_length_le (by omega), List.append_nil]
    rw [this] at h2
    exact h2
  have fillz : fillL [] [.int .i64 0, .int .i64 0, .int .i64 0, .int .i64 0, .int .i64 0, .bool false] = some (rightsC 0 0 0 0 0 false) := rfl
  have len6 : Nat.beq (lenL (rightsC 0 0 0 0 0 false)) 6 = true := rfl
  obtain ⟨sz, hz1, hz2⟩ := zput rfl B1 (rightsC 0 0 0 0 0 false) rfl
  by_cases hlen : l.length = 12
  case neg =>
    have e1 : decide (((l.length : Nat) : Int) = 12) = false := by simp; omega
    refine W_seq (W_seq (W_region (by simp only [sim, if_true, if_false, eq_self, Bool.false_eq_true, decide_true, decide_false, Int.reduceEq, Bool.not_true, Bool.not_false, Nat.reduceEqDiff, Nat.mul_one, Nat.zero_add, Nat.add_zero, Option.isNone_none, Option.isNone_some, h0, Int.ofNat_eq_natCast, e1]; rfl) (W_then (by simp only [sim, if_true, if_false, eq_self, Bool.false_eq_true, decide_true, decide_false, Int.reduceEq, Bool.not_true, Bool.not_false, Nat.reduceEqDiff, Nat.mul_one, Nat.zero_add, Nat.add_zero, Option.isNone_none, Option.isNone_some]) ?_)))
    refine W_seq (W_region (by simp only [sim, if_true, if_false, eq_self, Bool.false_eq_true, decide_true, decide_false, Int.reduceEq, Bool.not_true, Bool.not_false, Nat.reduceEqDiff, Nat.mul_one, Nat.zero_add, Nat.add_zero, Option.isNone_none, Option.isNone_some, fillz, len6, hz1]; rfl) (W_ret (bad _ _ (by simp only [sim, if_true, if_false, eq_self, Bool.false_eq_true, decide_true, decide_false, Int.reduceEq, Bool.not_true, Bool.not_false, Nat.reduceEqDiff, Nat.mul_one, Nat.zero_add, Nat.add_zero, Option.isNone_none, Option.isNone_some]) (by simp only [sim, if_true, if_false, eq_self, Bool.false_eq_true, decide_true, decide_false, Int.reduceEq, Bool.not_true, Bool.not_false, Nat.reduceEqDiff, Nat.mul_one, Nat.zero_add, Nat.add_zero, Option.isNone_none, Option.isNone_some]) (by unfold getR; rw [if_neg (fun h => hlen h.1)]) hz2)))
  obtain ⟨a0, a1, a2, a3, a4, a5, a6, a7, a8, a9, a10, a11, rfl⟩ := len12 hlen
  -- the bytes
  obtain ⟨q, rfl, -⟩ := hv.cell (i := 0) (by simp)
  have rd : ∀ (t : St) (i : Nat) (x : UInt8), Low s.next s t → [a0, a1, a2, a3, a4, a5, a6, a7, a8, a9, a10, a11][i]? = some x → t.cell (q.add i) = some (ofByte x) := by
    intro t i x hlow hi
    have hlt := (List.getElem?_eq_some_iff.1 hi).1
    obtain ⟨q', h1, h2⟩ := (hv.low hlow hhi).cell (i := i) (by rw [List.length_map]; exact hlt)
    cases h1
    rw [h2, List.getElem?_map, hi]; rfl
  have n8 : asNat (.int .i64 8) = some 8 := rfl
  have n9 : asNat (.int .i64 9) = some 9 := rfl
  have n10 : asNat (.int .i64 10) = some 10 := rfl
  have n11 : asNat (.int .i64 11) = some 11 := rfl
  have e12 : decide (((12 : Nat) : Int) = 12) = true := rfl
  have b8 : Nat.blt 8 12 = true := rfl
  have b9 : Nat.blt 9 12 = true := rfl
  have b10 : Nat.blt 10 12 = true := rfl
  have b11 : Nat.blt 11 12 = true := rfl
  simp only [List.length_cons, List.length_nil, Nat.zero_add, Nat.reduceAdd] at h0
  have r11 := rd s1 11 a11 B1.low rfl
  cases e2 : decide ((1 : Int) < (a11.toNat : Int)) with
  | true =>
    refine W_seq (W_seq (W_region (by simp only [sim, if_true, if_false, eq_self, Bool.false_eq_true, decide_true, decide_false, Int.reduceEq, Bool.not_true, Bool.not_false, Nat.reduceEqDiff, Nat.mul_one, Nat.zero_add, Nat.add_zero, Option.isNone_none, Option.isNone_some, h0, Int.ofNat_eq_natCast, e12, n11, b11, r11, e2]; rfl) (W_then (by simp only [sim, if_true, if_false, eq_self, Bool.false_eq_true, decide_true, decide_false, Int.reduceEq, Bool.not_true, Bool.not_false, Nat.reduceEqDiff, Nat.mul_one, Nat.zero_add, Nat.add_zero, Option.isNone_none, Option.isNone_some]) ?_)))
    refine W_seq (W_region (by simp only [sim, if_true, if_false, eq_self, Bool.false_eq_true, decide_true, decide_false, Int.reduceEq, Bool.not_true, Bool.not_false, Nat.reduceEqDiff, Nat.mul_one, Nat.zero_add, Nat.add_zero, Option.isNone_none, Option.isNone_some, fillz, len6, hz1]; rfl) (W_ret (bad _ _ (by simp only [sim, if_true, if_false, eq_self, Bool.false_eq_true, decide_true, decide_false, Int.reduceEq, Bool.not_true, Bool.not_false, Nat.reduceEqDiff, Nat.mul_one, Nat.zero_add, Nat.add_zero, Option.isNone_none, Option.isNone_some]) (by simp only [sim, if_true, if_false, eq_self, Bool.false_eq_true, decide_true, decide_false, Int.reduceEq, Bool.not_true, Bool.not_false, Nat.reduceEqDiff, Nat.mul_one, Nat.zero_add, Nat.add_zero, Option.isNone_none, Option.isNone_some]) ?_ hz2)))
    unfold getR
    rw [if_neg]
    rintro ⟨_, h, _⟩
    rw [decide_eq_true_eq] at e2
    have h : a11.toNat ≤ 1 := h
    omega
  | false =>
  refine W_seq (W_seq (W_region (by simp only [sim, if_true, if_false, eq_self, Bool.false_eq_true, decide_true, decide_false, Int.reduceEq, Bool.not_true, Bool.not_false, Nat.reduceEqDiff, Nat.mul_one, Nat.zero_add, Nat.add_zero, Option.isNone_none, Option.isNone_some, h0, Int.ofNat_eq_natCast, e12, n11, b11, r11, e2]; rfl) (W_else (by simp only [sim, if_true, if_false, eq_self, Bool.false_eq_true, decide_true, decide_false, Int.reduceEq, Bool.not_true, Bool.not_false, Nat.reduceEqDiff, Nat.mul_one, Nat.zero_add, Nat.add_zero, Option.isNone_none, Option.isNone_some]) (W_skip ?_))))
  rw [decide_eq_false_iff_not] at e2
  -- the parts
  have w8 : ∀ x : UInt8, wr .i64 ((x.toNat : Nat) : Int) = ((x.toNat : Nat) : Int) := fun x => wr_i64_nat (by have := x.toNat_lt; omega)
  have nxt : ∀ n, Low s.next s (s1.skip n) := fun n => B1.low.skip n
  let fo : Int := (a8.toNat : Nat)
  let fg : Int := (a9.toNat : Nat)
  let fa : Int := (a10.toNat : Nat)
  have hfill : fillL [(2, 1, .int .i64 ((a8.toNat : Nat) : Int)), (3, 1, .int .i64 ((a9.toNat : Nat) : Int)), (4, 1, .int .i64 ((a10.toNat : Nat) : Int)), (5, 1, .bool (decide (((a11.toNat : Nat) : Int) = 1)))] [.int .i64 0, .int .i64 0, .int .i64 0, .int .i64 0, .int .i64 0, .bool false] =
    some (rightsC 0 0 (a8.toNat : Nat) (a9.toNat : Nat) (a10.toNat : Nat) (decide (((a11.toNat : Nat) : Int) = 1))) := rfl
  have len6' : ∀ o g fo fg fa b, Nat.beq (lenL (rightsC o g fo fg fa b)) 6 = true := fun _ _ _ _ _ _ => rfl
  refine W_seq (W_ops ?_)
  refine Wo_run (l := [_, _, _, _, _, _, _, _, _, _, _, _, _, _, _, _, _]) (by simp only [sim, if_true, if_false, eq_self, Bool.false_eq_true, decide_true, decide_false, Int.reduceEq, Bool.not_true, Bool.not_false, Nat.reduceEqDiff, Nat.mul_one, Nat.zero_add, Nat.add_zero, Option.isNone_none, Option.isNone_some, h0, n8, n9, n10, n11, b8, b9, b10, b11, rd s1 8 a8 B1.low rfl, rd s1 9 a9 B1.low rfl, rd s1 10 a10 B1.low rfl, r11, w8, hfill]; rfl) ?_
  refine Wo_alloc (lo := s.next) (s0 := s) (B1.low.skip 19) (Nat.le_trans B1.low.2.1 (Nat.le_add_right _ _)) (by rw [next_skip]; omega) (fun s2 B2 hn2 hk2 => ?_)
  have hlt1 := B1.lt
  have B1 := (B1.skip 19).same hn2 hk2 (by omega) (Nat.le_trans B1.low.2.1 (Nat.le_add_right _ _))
  generalize hb2 : s1.next + 17 = b2 at B2
  have hne : s.next ≠ b2 := by omega
  obtain ⟨s3, p3, B2, n3, k3⟩ := B2.put (o := 0) (vs := rightsC 0 0 (a8.toNat : Nat) (a9.toNat : Nat) (a10.toNat : Nat) (decide (((a11.toNat : Nat) : Int) = 1))) (by show 0 + 6 ≤ 6; decide)
  have B1 := B1.same n3 k3 hne B2.ge
  have B2 : Boxed s.next s s3 b2 (rightsC 0 0 (a8.toNat : Nat) (a9.toNat : Nat) (a10.toNat : Nat) (decide (((a11.toNat : Nat) : Int) = 1))) := B2
  refine Wo_all (by simp only [sim, if_true, if_false, eq_self, Bool.false_eq_true, decide_true, decide_false, Int.reduceEq, Bool.not_true, Bool.not_false, Nat.reduceEqDiff, Nat.mul_one, Nat.zero_add, Nat.add_zero, Option.isNone_none, Option.isNone_some, len6', p3]; rfl) ?_
  -- the numbers
  refine W_seq (W_seq (W_region (by simp only [sim, if_true, if_false, eq_self, Bool.false_eq_true, decide_true, decide_false, Int.reduceEq, Bool.not_true, Bool.not_false, Nat.reduceEqDiff, Nat.mul_one, Nat.zero_add, Nat.add_zero, Option.isNone_none, Option.isNone_some]; rfl) ?_))
  refine W_block ?_
  refine W_inv (fun m fr t => ∃ i, m = 4 - i ∧ i ≤ 4 ∧ fr.get 5 = some (.int .i64 (i : Nat)) ∧ fr.get 0 = some (.slice (some q) 12 c) ∧ fr.get 2 = some (ptr s.next 0) ∧ fr.get 4 = some (ptr b2 0) ∧ Boxed s.next s t s.next (rightsC 0 0 0 0 0 false) ∧
    Boxed s.next s t b2 (rightsC (beN ([a0, a1, a2, a3].take i) : Nat) (beN ([a4, a5, a6, a7].take i) : Nat) (a8.toNat : Nat) (a9.toNat : Nat) (a10.toNat : Nat) (decide (((a11.toNat : Nat) : Int) = 1)))) ?_ 4 _ _ ⟨0, rfl, Nat.zero_le _, by simp only [sim, if_true, if_false, eq_self, Bool.false_eq_true, decide_true, decide_false, Int.reduceEq, Bool.not_true, Bool.not_false, Nat.reduceEqDiff, Nat.mul_one, Nat.zero_add, Nat.add_zero, Option.isNone_none, Option.isNone_some]; rfl, by simp only [sim, if_true, if_false, eq_self, Bool.false_eq_true, decide_true, decide_false, Int.reduceEq, Bool.not_true, Bool.not_false, Nat.reduceEqDiff, Nat.mul_one, Nat.zero_add, Nat.add_zero, Option.isNone_none, Option.isNone_some, h0], by simp only [sim, if_true, if_false, eq_self, Bool.false_eq_true, decide_true, decide_false, Int.reduceEq, Bool.not_true, Bool.not_false, Nat.reduceEqDiff, Nat.mul_one, Nat.zero_add, Nat.add_zero, Option.isNone_none, Option.isNone_some], by simp only [sim, if_true, if_false, eq_self, Bool.false_eq_true, decide_true, decide_false, Int.reduceEq, Bool.not_true, Bool.not_false, Nat.reduceEqDiff, Nat.mul_one, Nat.zero_add, Nat.add_zero, Option.isNone_none, Option.isNone_some], B1, B2⟩
  rintro m fr t ⟨i, rfl, hi, f5, f0, f2, f4, B1, B2⟩
  unfold Code.tithingref25_GetRights_l0
  refine W_seq (W_seq (W_region (by simp only [sim, if_true, if_false, eq_self, Bool.false_eq_true, decide_true, decide_false, Int.reduceEq, Bool.not_true, Bool.not_false, Nat.reduceEqDiff, Nat.mul_one, Nat.zero_add, Nat.add_zero, Option.isNone_none, Option.isNone_some, f5]; rfl) ?_))
  refine W_if (p := (i : Int) < 4) (by simp only [sim, if_true, if_false, eq_self, Bool.false_eq_true, decide_true, decide_false, Int.reduceEq, Bool.not_true, Bool.not_false, Nat.reduceEqDiff, Nat.mul_one, Nat.zero_add, Nat.add_zero, Option.isNone_none, Option.isNone_some]) (fun hp => W_skip ?_) (fun hp => W_exit ?_)
  · have hlt : i < 4 := by omega
    obtain ⟨x, hx⟩ : ∃ x, [a0, a1, a2, a3][i]? = some x := ⟨_, List.getElem?_eq_getElem (by exact hlt)⟩
    obtain ⟨y, hy⟩ : ∃ y, [a4, a5, a6, a7][i]? = some y := ⟨_, List.getElem?_eq_getElem (by exact hlt)⟩
    have hx2 : [a0, a1, a2, a3, a4, a5, a6, a7, a8, a9, a10, a11][i]? = some x := by
      have : [a0, a1, a2, a3, a4, a5, a6, a7, a8, a9, a10, a11] = [a0, a1, a2, a3] ++ [a4, a5, a6, a7, a8, a9, a10, a11] := rfl
      rw [this, List.getElem?_append_left (by exact hlt)]; exact hx
    have hy2 : [a0, a1, a2, a3, a4, a5, a6, a7, a8, a9, a10, a11][4 + i]? = some y := by
      have : [a0, a1, a2, a3, a4, a5, a6, a7, a8, a9, a10, a11] = [a0, a1, a2, a3] ++ ([a4, a5, a6, a7] ++ [a8, a9, a10, a11]) := rfl
      rw [this, List.getElem?_append_right (by show 4 ≤ 4 + i; omega), show 4 + i - [a0, a1, a2, a3].length = i from by show 4 + i - 4 = i; omega, List.getElem?_append_left (by exact hlt)]; exact hy
    have tk : ∀ (l : List UInt8) (z : UInt8), l[i]? = some z → beN (l.take (i + 1)) = beN (l.take i) * 256 + z.toNat := by
      intro l z hz
      rw [List.take_add_one, hz]
      exact beN_snoc _ _
    have bd : ∀ (l : List UInt8), l.length = 4 → beN (l.take i) < 16777216 := by
      intro l hl
      have h1 := beN_lt (l.take i)
      have h2 : (256 : Nat) ^ (l.take i).length ≤ 256 ^ 3 := Nat.pow_le_pow_right (by omega) (by rw [List.length_take]; omega)
      omega
    have bx := bd [a0, a1, a2, a3] rfl
    have by_ := bd [a4, a5, a6, a7] rfl
    have hxl := x.toNat_lt
    have hyl := y.toNat_lt
    generalize hX : beN ([a0, a1, a2, a3].take i) = X at B2 bx
    generalize hY : beN ([a4, a5, a6, a7].take i) = Y at B2 by_
    have hbl : Nat.blt i 12 = true := by rw [Nat.blt_eq]; omega
    have hbl2 : Nat.blt (4 + i) 12 = true := by rw [Nat.blt_eq]; omega
    have cX : t.cell ⟨b2, 0, none⟩ = some (.int .i64 (X : Nat)) := B2.cell
    have w1 : wr .i64 ((X : Int) * 256) = ((X * 256 : Nat) : Int) := by rw [wr_i64 (by omega) (by omega)]; omega
    have w2 : wr .i64 (((X * 256 : Nat) : Int) + ((x.toNat : Nat) : Int)) = ((X * 256 + x.toNat : Nat) : Int) := by rw [wr_i64 (by omega) (by omega)]; omega
    have w3 : wr .i64 ((Y : Int) * 256) = ((Y * 256 : Nat) : Int) := by rw [wr_i64 (by omega) (by omega)]; omega
    have w4 : wr .i64 (((Y * 256 : Nat) : Int) + ((y.toNat : Nat) : Int)) = ((Y * 256 + y.toNat : Nat) : Int) := by rw [wr_i64 (by omega) (by omega)]; omega
    have w5 : wr .i64 (4 + (i : Int)) = ((4 + i : Nat) : Int) := by rw [wr_i64 (by omega) (by omega)]; omega
    have w6 : wr .i64 ((i : Int) + 1) = ((i + 1 : Nat) : Int) := by rw [wr_i64 (by omega) (by omega)]; omega
    obtain ⟨t1, p1, B2', m1, k1⟩ := B2.put (o := 0) (vs := [.int .i64 ((X * 256 + x.toNat : Nat) : Int)]) (by show 0 + 1 ≤ 6; decide)
    have B1' := B1.same m1 k1 hne B2.ge
    have B2' : Boxed s.next s t1 b2 (rightsC (X * 256 + x.toNat : Nat) (Y : Nat) (a8.toNat : Nat) (a9.toNat : Nat) (a10.toNat : Nat) (decide (((a11.toNat : Nat) : Int) = 1))) := B2'
    have cY : t1.cell ⟨b2, 1, none⟩ = some (.int .i64 (Y : Nat)) := B2'.cell
    refine W_seq (W_block (W_seq (W_region (by simp only [sim, if_true, if_false, eq_self, Bool.false_eq_true, decide_true, decide_false, Int.reduceEq, Bool.not_true, Bool.not_false, Nat.reduceEqDiff, Nat.mul_one, Nat.zero_add, Nat.add_zero, Option.isNone_none, Option.isNone_some, f4, f0, f5, cX, w1, hbl, rd t i x B1.low hx2, w8, w2, p1]; rfl) ?_)))
    obtain ⟨t2, p2, B2'', m2, k2⟩ := B2'.put (o := 1) (vs := [.int .i64 ((Y * 256 + y.toNat : Nat) : Int)]) (by show 1 + 1 ≤ 6; decide)
    have B1'' := B1'.same m2 k2 hne B2'.ge
    refine W_region (by simp only [sim, if_true, if_false, eq_self, Bool.false_eq_true, decide_true, decide_false, Int.reduceEq, Bool.not_true, Bool.not_false, Nat.reduceEqDiff, Nat.mul_one, Nat.zero_add, Nat.add_zero, Option.isNone_none, Option.isNone_some, f4, f0, f5, cY, w3, w5, hbl2, rd t1 (4 + i) y B1'.low hy2, w8, w4, p2]; rfl) ?_
    refine W_region (by simp only [sim, if_true, if_false, eq_self, Bool.false_eq_true, decide_true, decide_false, Int.reduceEq, Bool.not_true, Bool.not_false, Nat.reduceEqDiff, Nat.mul_one, Nat.zero_add, Nat.add_zero, Option.isNone_none, Option.isNone_some, f5, w6]; rfl) ?_
    refine ⟨4 - (i + 1), by omega, i + 1, rfl, by omega, by simp only [sim, if_true, if_false, eq_self, Bool.false_eq_true, decide_true, decide_false, Int.reduceEq, Bool.not_true, Bool.not_false, Nat.reduceEqDiff, Nat.mul_one, Nat.zero_add, Nat.add_zero, Option.isNone_none, Option.isNone_some], by simp only [sim, if_true, if_false, eq_self, Bool.false_eq_true, decide_true, decide_false, Int.reduceEq, Bool.not_true, Bool.not_false, Nat.reduceEqDiff, Nat.mul_one, Nat.zero_add, Nat.add_zero, Option.isNone_none, Option.isNone_some, f0], by simp only [sim, if_true, if_false, eq_self, Bool.false_eq_true, decide_true, decide_false, Int.reduceEq, Bool.not_true, Bool.not_false, Nat.reduceEqDiff, Nat.mul_one, Nat.zero_add, Nat.add_zero, Option.isNone_none, Option.isNone_some, f2], by simp only [sim, if_true, if_false, eq_self, Bool.false_eq_true, decide_true, decide_false, Int.reduceEq, Bool.not_true, Bool.not_false, Nat.reduceEqDiff, Nat.mul_one, Nat.zero_add, Nat.add_zero, Option.isNone_none, Option.isNone_some, f4], B1'', ?_⟩
    rw [tk _ x hx, tk _ y hy, hX, hY]
    exact B2''
  have hi4 : i = 4 := by omega
  subst hi4
  show W E _ _ _ _
  refine W_gen (T := [(2, ptr s.next 0), (4, ptr b2 0)]) (all_cons (by simp only [sim, if_true, if_false, eq_self, Bool.false_eq_true, decide_true, decide_false, Int.reduceEq, Bool.not_true, Bool.not_false, Nat.reduceEqDiff, Nat.mul_one, Nat.zero_add, Nat.add_zero, Option.isNone_none, Option.isNone_some, f2]) (all_cons (by simp only [sim, if_true, if_false, eq_self, Bool.false_eq_true, decide_true, decide_false, Int.reduceEq, Bool.not_true, Bool.not_false, Nat.reduceEqDiff, Nat.mul_one, Nat.zero_add, Nat.add_zero, Option.isNone_none, Option.isNone_some, f4]) all_nil)) fun fr9 h9 => ?_
  have f2 : fr9.get 2 = some (.pointer (some ⟨s.next, 0, none⟩)) := h9 _ (.head _)
  have f4 : fr9.get 4 = some (.pointer (some ⟨b2, 0, none⟩)) := h9 _ (.tail _ (.head _))
  clear h9
  generalize ho : (beN (([a0, a1, a2, a3, a4, a5, a6, a7, a8, a9, a10, a11].drop 0).take 4) : Int) = o
  generalize hg : (beN (([a0, a1, a2, a3, a4, a5, a6, a7, a8, a9, a10, a11].drop 4).take 4) : Int) = g
  have B2 : Boxed s.next s t b2 (rightsC o g (a8.toNat : Nat) (a9.toNat : Nat) (a10.toNat : Nat) (decide (((a11.toNat : Nat) : Int) = 1))) := by
    rw [← ho, ← hg]; exact B2
  -- are they valid?
  refine W_seq (W_seq (W_opsM (Wo_run (by simp only [sim, if_true, if_false, eq_self, Bool.false_eq_true, decide_true, decide_false, Int.reduceEq, Bool.not_true, Bool.not_false, Nat.reduceEqDiff, Nat.mul_one, Nat.zero_add, Nat.add_zero, Option.isNone_none, Option.isNone_some, f2, f4, B2.row (n := 6) rfl]; rfl) (Wo_call hC.tithingref21_Valid.prim (by simp only [sim, if_true, if_false, eq_self, Bool.false_eq_true, decide_true, decide_false, Int.reduceEq, Bool.not_true, Bool.not_false, Nat.reduceEqDiff, Nat.mul_one, Nat.zero_add, Nat.add_zero, Option.isNone_none, Option.isNone_some, f2, f4]; rfl) ((refValid_run hC hC.tithingref21_Valid).mono ?_)))))
  rintro _ s6 ⟨rfl, hlow6⟩
  have B1 := B1.go hlow6
  have B2 := B2.go hlow6
  have hgetR : getR [a0, a1, a2, a3, a4, a5, a6, a7, a8, a9, a10, a11] = if validR o g (a8.toNat : Nat) (a9.toNat : Nat) (a10.toNat : Nat) then some (rightsC o g (a8.toNat : Nat) (a9.toNat : Nat) (a10.toNat : Nat) (decide (((a11.toNat : Nat) : Int) = 1))) else none := by
    have hd : decide (a11.toNat = 1) = decide (((a11.toNat : Nat) : Int) = 1) := by rw [decide_eq_decide]; omega
    have hp : validR o g (a8.toNat : Nat) (a9.toNat : Nat) (a10.toNat : Nat) ↔ a8.toNat ≤ 7 ∧ a9.toNat ≤ 7 ∧ a10.toNat ≤ 7 := by
      unfold validR
      rw [← ho, ← hg]
      omega
    by_cases hc : a8.toNat ≤ 7 ∧ a9.toNat ≤ 7 ∧ a10.toNat ≤ 7
    · rw [if_pos (hp.2 hc)]
      unfold getR
      rw [if_pos ⟨rfl, by show a11.toNat ≤ 1; omega, hc⟩, ← hd, ← ho, ← hg]
      rfl
    · rw [if_neg (fun h => hc (hp.1 h))]
      unfold getR
      rw [if_neg (fun h => hc h.2.2)]
  cases e6 : decide (validR o g (a8.toNat : Nat) (a9.toNat : Nat) (a10.toNat : Nat)) with
  | false =>
    rw [decide_eq_false_iff_not] at e6
    rw [if_neg e6] at hgetR
    obtain ⟨sz, hz1, hz2⟩ := zput rfl B1 (rightsC 0 0 0 0 0 false) rfl
    refine Wo_all (by simp only [sim, if_true, if_false, eq_self, Bool.false_eq_true, decide_true, decide_false, Int.reduceEq, Bool.not_true, Bool.not_false, Nat.reduceEqDiff, Nat.mul_one, Nat.zero_add, Nat.add_zero, Option.isNone_none, Option.isNone_some, f2, f4]; rfl) (W_then (by simp only [sim, if_true, if_false, eq_self, Bool.false_eq_true, decide_true, decide_false, Int.reduceEq, Bool.not_true, Bool.not_false, Nat.reduceEqDiff, Nat.mul_one, Nat.zero_add, Nat.add_zero, Option.isNone_none, Option.isNone_some, f2, f4]) ?_)
    refine W_seq (W_region (by simp only [sim, if_true, if_false, eq_self, Bool.false_eq_true, decide_true, decide_false, Int.reduceEq, Bool.not_true, Bool.not_false, Nat.reduceEqDiff, Nat.mul_one, Nat.zero_add, Nat.add_zero, Option.isNone_none, Option.isNone_some, f2, f4, fillz, len6, hz1]; rfl) (W_ret (bad _ _ (by simp only [sim, if_true, if_false, eq_self, Bool.false_eq_true, decide_true, decide_false, Int.reduceEq, Bool.not_true, Bool.not_false, Nat.reduceEqDiff, Nat.mul_one, Nat.zero_add, Nat.add_zero, Option.isNone_none, Option.isNone_some, f2, f4]) (by simp only [sim, if_true, if_false, eq_self, Bool.false_eq_true, decide_true, decide_false, Int.reduceEq, Bool.not_true, Bool.not_false, Nat.reduceEqDiff, Nat.mul_one, Nat.zero_add, Nat.add_zero, Option.isNone_none, Option.isNone_some, f2, f4]) hgetR hz2)))
  | true =>
    rw [decide_eq_true_eq] at e6
    rw [if_pos e6] at hgetR
    obtain ⟨sz, hz1, hz2⟩ := zput rfl B1 (rightsC o g (a8.toNat : Nat) (a9.toNat : Nat) (a10.toNat : Nat) (decide (((a11.toNat : Nat) : Int) = 1))) rfl
    refine Wo_all (by simp only [sim, if_true, if_false, eq_self, Bool.false_eq_true, decide_true, decide_false, Int.reduceEq, Bool.not_true, Bool.not_false, Nat.reduceEqDiff, Nat.mul_one, Nat.zero_add, Nat.add_zero, Option.isNone_none, Option.isNone_some, f2, f4]; rfl) (W_else (by simp only [sim, if_true, if_false, eq_self, Bool.false_eq_true, decide_true, decide_false, Int.reduceEq, Bool.not_true, Bool.not_false, Nat.reduceEqDiff, Nat.mul_one, Nat.zero_add, Nat.add_zero, Option.isNone_none, Option.isNone_some, f2, f4]) (W_skip ?_))
    refine W_seq (W_region (by simp only [sim, if_true, if_false, eq_self, Bool.false_eq_true, decide_true, decide_false, Int.reduceEq, Bool.not_true, Bool.not_false, Nat.reduceEqDiff, Nat.mul_one, Nat.zero_add, Nat.add_zero, Option.isNone_none, Option.isNone_some, f2, f4, B2.row (n := 6) rfl, len6', hz1]; rfl) (W_ret ⟨rfl, _, res_cell (b := s.next) (by simp only [sim, if_true, if_false, eq_self, Bool.false_eq_true, decide_true, decide_false, Int.reduceEq, Bool.not_true, Bool.not_false, Nat.reduceEqDiff, Nat.mul_one, Nat.zero_add, Nat.add_zero, Option.isNone_none, Option.isNone_some, f2, f4]) (hz2.row rfl) (res_tmp res_nil), ?_, hz2.low⟩))
    unfold getRV
    rw [hgetR]
    simp only [sim, if_true, if_false, eq_self, Bool.false_eq_true, decide_true, decide_false, Int.reduceEq, Bool.not_true, Bool.not_false, Nat.reduceEqDiff, Nat.mul_one, Nat.zero_add, Nat.add_zero, Option.isNone_none, Option.isNone_some, f2, f4, tupled]

end
end
end Go.Ev
