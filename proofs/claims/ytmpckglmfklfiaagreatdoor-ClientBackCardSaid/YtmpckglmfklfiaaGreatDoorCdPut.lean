/-
  Numbers in bytes: octet.Put.
-/
import Derived.Test.YtmpckglmfklfiaaGreatDoorCdCode
set_option linter.unusedVariables false
set_option linter.unusedSimpArgs false
namespace Go.Ev
open Int renaming reduceEq → rI
open Nat renaming reduceEqDiff → rN
noncomputable section
section
variable {E : Env} {f : FuncId} {s : St}
theorem isWidth_run (hf : Has E f Code.octet_isWidth) (n : Int) : Cv E f [.int .i64 n] s fun v s' => v = .bool (decide (n = 1 ∨ n = 2 ∨ n = 4)) ∧ s' = s := by
  refine Cv_of hf.code ?_
  have h0 : (Tr.ofList (.e : Fr) 0 [.int .i64 n]).get 0 = some (.int .i64 n) := rfl
  generalize (Tr.ofList (.e : Fr) 0 [.int .i64 n]) = fr0 at h0
  unfold Code.octet_isWidth
  refine W_seq (W_region (by simp only [sims, rI, rN, h0]; rfl) ?_)
  cases e1 : decide (n = 1) <;> cases e2 : decide (n = 2) <;> cases e3 : decide (n = 4) <;>
    exact W_seq (W_region (by simp only [sims, rI, rN, h0, e1, e2, e3]; rfl) (W_ret ⟨rfl, [_], rfl, by simp only [sims, rI, rN]; simp only [decide_eq_true_eq, decide_eq_false_iff_not] at e1 e2 e3; simp [e1, e2, e3, tupled], rfl⟩))
theorem within_run (hf : Has E f Code.rights_within) (n l h : Int) : Cv E f [.int .i64 n, .int .i64 l, .int .i64 h] s fun v s' => v = .bool (decide (l ≤ n ∧ n ≤ h)) ∧ s' = s := by
  refine Cv_of hf.code ?_
  have h0 : (Tr.ofList (.e : Fr) 0 [.int .i64 n, .int .i64 l, .int .i64 h]).get 0 = some (.int .i64 n) := rfl
  have h1 : (Tr.ofList (.e : Fr) 0 [.int .i64 n, .int .i64 l, .int .i64 h]).get 1 = some (.int .i64 l) := rfl
  have h2 : (Tr.ofList (.e : Fr) 0 [.int .i64 n, .int .i64 l, .int .i64 h]).get 2 = some (.int .i64 h) := rfl
  generalize (Tr.ofList (.e : Fr) 0 [.int .i64 n, .int .i64 l, .int .i64 h]) = fr0 at h0 h1 h2
  unfold Code.rights_within
  refine W_seq (W_region (by simp only [sims, rI, rN, h0]; rfl) ?_)
  cases e1 : decide (l ≤ n) <;> cases e2 : decide (n ≤ h) <;>
    exact W_seq (W_region (by simp only [sims, rI, rN, h0, h1, h2, e1, e2]; rfl) (W_ret ⟨rfl, [_], rfl, by simp only [sims, rI, rN]; simp only [decide_eq_true_eq, decide_eq_false_iff_not] at e1 e2; simp [e1, e2, tupled], rfl⟩))
def putOk (n : Nat) (v : Int) : Prop := (n = 1 ∨ n = 2 ∨ n = 4) ∧ 0 ≤ v ∧ v < 2 ^ (8 * n)
instance (n : Nat) (v : Int) : Decidable (putOk n v) := by unfold putOk; infer_instance
theorem beB_get {n v i : Nat} (h : i < n) : (beB n v)[i]'(by rw [beB_length]; exact h) = UInt8.ofNat (v / 256 ^ (n - 1 - i)) := by
  induction n generalizing i with
  | zero => omega
  | succ n ih =>
    cases i with
    | zero => rfl
    | succ i =>
      show (beB n v)[i]'_ = _
      rw [ih (by omega)]
      congr 3; omega
theorem put_loop {lo : Nat} {n v : Nat} (hn : n ≤ 4) (hlo : lo ≤ s.next) {Q : Ex → Fr → St → Prop}
    (hq : ∀ fr x s', Gr s' lo 1 x ((beB n v).map ofByte) → Low lo s s' → fr.get 6 = some x → Q (.exit 0) fr s') :
    ∀ (k : Nat) (fr : Fr) (t : St), (∃ x, Low lo s t ∧ k ≤ n ∧ Gr t lo 1 x (((beB n v).take (n - k)).map ofByte) ∧ fr.get 6 = some x ∧ fr.get 1 = some (.int .i64 (v : Nat)) ∧ fr.get 7 = some (.int .i64 ((k : Int) - 1))) → W E (.loop Code.octet_Put_l0) fr t Q := by
  refine W_inv _ ?_
  rintro k fr t ⟨x, hlow, hk, hg, h6, h1, h7⟩
  unfold Code.octet_Put_l0
  refine W_seq (W_seq (W_region (by simp only [sims, rI, rN, h7]; rfl) ?_))
  refine W_if (p := (0 : Int) ≤ (k : Int) - 1) (by simp only [sims, rI, rN]) (fun hp => W_skip ?_) (fun hp => W_exit ?_)
  · obtain ⟨j, rfl⟩ : ∃ j, k = j + 1 := ⟨k - 1, by omega⟩
    have e0 : ((j + 1 : Nat) : Int) - 1 = (j : Nat) := by omega
    rw [e0] at h7
    have e1 : wr .i64 (8 * (j : Int)) = ((8 * j : Nat) : Int) := by rw [wr_i64 (by omega) (by omega)]; omega
    have e2 : binOp .shr (.int .i64 (v : Int)) (.int .i64 ((8 * j : Nat) : Int)) = some (.int .i64 ((v / 256 ^ j : Nat) : Int)) := by
      rw [shr_nat _ _ _ _ (by show 8 * j ≤ 64; omega), show (2 : Nat) ^ (8 * j) = 256 ^ j from by rw [Nat.pow_mul]]
    have e3 := wr_u8_nat (v / 256 ^ j)
    refine W_seq (W_block ?_)
    refine W_ops (Wo_run (l := [_, _, _, _, _, _]) (by simp only [sims, rI, rN, h6, h1, h7, e0, e1, e2, e3]; rfl) ?_)
    refine Wo_buildSlice (size := 1) (lo := t.next) (cs := [ofByte (UInt8.ofNat (v / 256 ^ j))]) (by simp only [sims, rI, rN]; rw [← ofByte_int, ofByte_ofNat]; rfl) rfl (Nat.le_add_right _ _) (by rw [next_skip]; omega) (by decide) ?_
    rintro s2 ⟨g1, -⟩ g2 -
    have g2 : Low t.next t s2 := ((Low.self t).skip 9).trans g2
    have hlow2 := hlow.trans (g2.weak hlow.le)
    have hlen : ((beB n v).take (n - (j + 1))).length = n - (j + 1) := by rw [List.length_take, beB_length]; omega
    refine Wo_append (lo := lo) (by simp only [sims, rI, rN]) (by simp only [sims, rI, rN]) (hg.low g2 (Nat.le_refl _)) hlow2.le g1.feed (by decide) (by simp [hlen, room]; omega) ?_
    rintro x' s3 g3 g4 -
    refine Wo_all (by simp only [sims, rI, rN]; rfl) ?_
    have e4 : wr .i64 ((j : Int) - 1) = (j : Int) - 1 := wr_i64 (by omega) (by omega)
    refine W_region (by simp only [sims, rI, rN, h7, e4]; rfl) ?_
    refine ⟨j, Nat.lt_succ_self j, x', hlow2.trans g4, by omega, ?_, by simp only [sims, rI, rN], by simp only [sims, rI, rN, h1], by simp only [sims, rI, rN]⟩
    have e5 : (beB n v).take (n - j) = (beB n v).take (n - (j + 1)) ++ [UInt8.ofNat (v / 256 ^ j)] := by
      rw [show n - j = (n - (j + 1)) + 1 from by omega, List.take_succ_eq_append_getElem (by rw [beB_length]; omega), beB_get (by omega), show n - 1 - (n - (j + 1)) = j from by omega]
    rw [e5, List.map_append]
    exact g3
  · have hk0 : k = 0 := by omega
    subst hk0
    rw [Nat.sub_zero, List.take_of_length_le (by rw [beB_length]; omega)] at hg
    exact hq _ x _ hg hlow (by simp only [sims, rI, rN, h6])
theorem Put_run (hC : Codes E) (hf : Has E f Code.octet_Put) {n : Nat} (hn : n = 1 ∨ n = 2 ∨ n = 4) (v : Int) : Cv E f [.int .i64 (n : Nat), .int .i64 v] s fun r s' =>
    (0 ≤ v ∧ v < 2 ^ (8 * n) ∧ ∃ x, r = .tuple ⟨[x, .int .i64 0]⟩ ∧ Gr s' s.next 1 x ((beB n v.toNat).map ofByte) ∧ Low s.next s s') ∨ (¬ (0 ≤ v ∧ v < 2 ^ (8 * n)) ∧ r = .tuple ⟨[.slice none 0 0, .int .i64 2]⟩ ∧ s' = s) := by
  refine Cv_of hf.code ?_
  have h0 : (Tr.ofList (.e : Fr) 0 [.int .i64 (n : Nat), .int .i64 v]).get 0 = some (.int .i64 (n : Nat)) := rfl
  have h1 : (Tr.ofList (.e : Fr) 0 [.int .i64 (n : Nat), .int .i64 v]).get 1 = some (.int .i64 v) := rfl
  generalize (Tr.ofList (.e : Fr) 0 [.int .i64 (n : Nat), .int .i64 v]) = fr0 at h0 h1
  unfold Code.octet_Put
  have hn4 : n ≤ 4 := by omega
  refine W_seq (W_region (by simp only [sims, rI, rN]; rfl) ?_)
  refine W_seq (W_seq (W_opsM (Wo_run (by simp only [sims, rI, rN, h0]; rfl) (Wo_call hC.octet_isWidth.prim (by simp only [sims, rI, rN]; rfl) ((isWidth_run hC.octet_isWidth _).mono ?_)))))
  rintro _ _ ⟨rfl, hs⟩
  rw [hs]; clear hs
  have e0 : decide ((n : Int) = 1 ∨ (n : Int) = 2 ∨ (n : Int) = 4) = true := by simp; omega
  have e1 : wr .i64 (8 * (n : Int)) = ((8 * n : Nat) : Int) := by rw [wr_i64 (by omega) (by omega)]; omega
  have hp : (2 : Nat) ^ (8 * n) ≤ 2 ^ 32 := Nat.pow_le_pow_right (by omega) (by omega)
  have hpi : ((2 ^ (8 * n) : Nat) : Int) = (2 : Int) ^ (8 * n) := by rw [Int.natCast_pow]; rfl
  have e2 : binOp .shl (.int .i64 1) (.int .i64 ((8 * n : Nat) : Int)) = some (.int .i64 ((2 ^ (8 * n) : Nat) : Int)) := by
    have := shl_nat .i64 .i64 1 (8 * n) (by show 8 * n ≤ 64; omega)
    rw [Nat.one_mul, wr_i64_nat (by omega)] at this
    exact this
  have bad : ∀ fr : Fr, fr.get 4 = some (.slice none 0 0) → fr.get 5 = some (.int .i64 2) → ¬ (0 ≤ v ∧ v < 2 ^ (8 * n)) →
      isExit Ex.ret = false ∧ ∃ l, optL (oneRes fr s) [.tmp 4, .tmp 5] = some l ∧ ((0 ≤ v ∧ v < 2 ^ (8 * n) ∧ ∃ x, tupled l = .tuple ⟨[x, .int .i64 0]⟩ ∧ Gr s s.next 1 x ((beB n v.toNat).map ofByte) ∧ Low s.next s s) ∨ (¬ (0 ≤ v ∧ v < 2 ^ (8 * n)) ∧ tupled l = .tuple ⟨[.slice none 0 0, .int .i64 2]⟩ ∧ s = s)) := by
    intro fr g4 g5 hb
    exact ⟨rfl, _, res_tmp (res_tmp res_nil), .inr ⟨hb, by rw [g4, g5]; rfl, rfl⟩⟩
  cases e3 : decide (v < 0) with
  | true =>
    refine Wo_all (by simp only [sims, rI, rN, h0, h1, e0, e1, e2, e3, Bool.not_true, Bool.not_false]; rfl) ?_
    exact W_then (by simp only [sims, rI, rN]) (W_seq (W_region (by simp only [sims, rI, rN]; rfl) (W_ret (bad _ (by simp only [sims, rI, rN]) (by simp only [sims, rI, rN]) (by simp at e3; omega)))))
  | false =>
    cases e4 : decide (((2 ^ (8 * n) : Nat) : Int) ≤ v) with
    | true =>
      refine Wo_all (by simp only [sims, rI, rN, h0, h1, e0, e1, e2, e3, e4, Bool.not_true, Bool.not_false]; rfl) ?_
      exact W_then (by simp only [sims, rI, rN]) (W_seq (W_region (by simp only [sims, rI, rN]; rfl) (W_ret (bad _ (by simp only [sims, rI, rN]) (by simp only [sims, rI, rN]) (by rw [decide_eq_true_eq] at e4; omega)))))
    | false =>
      rw [decide_eq_false_iff_not] at e3 e4
      have hv0 : 0 ≤ v := by omega
      have hv1 : v < 2 ^ (8 * n) := by omega
      obtain ⟨m, rfl⟩ : ∃ m : Nat, v = m := ⟨v.toNat, by omega⟩
      refine Wo_all (by simp only [sims, rI, rN, h0, h1, e0, e1, e2, e3, e4, decide_false, Bool.not_true, Bool.not_false]; rfl) ?_
      refine W_else (by simp only [sims, rI, rN]) (W_skip ?_)
      refine W_seq (W_region (by simp only [sims, rI, rN]; rfl) ?_)
      have e5 : wr .i64 ((n : Int) - 1) = (n : Int) - 1 := wr_i64 (by omega) (by omega)
      refine W_seq (W_seq (W_region (by simp only [sims, rI, rN, h0, e5]; rfl) ?_))
      refine W_block (put_loop (s := s) (lo := s.next) (n := n) (v := m) hn4 (Nat.le_refl _) (fun fr x s' g1 g2 g3 => ?_) n _ _ ⟨.slice none 0 0, Low.self s, Nat.le_refl _, ?_, by simp only [sims, rI, rN], by simp only [sims, rI, rN, h1], by simp only [sims, rI, rN]⟩)
      · show W E _ _ _ _
        refine W_seq (W_region (by simp only [sims, rI, rN, g3]; rfl) (W_ret ⟨rfl, _, res_tmp (res_tmp res_nil), .inl ⟨hv0, hv1, x, ?_, ?_, g2⟩⟩))
        · simp only [sims, rI, rN, tupled]
        · rw [Int.toNat_natCast]; exact g1
      · rw [Nat.sub_self, List.take_zero]; exact .nil
end
end
end Go.Ev
