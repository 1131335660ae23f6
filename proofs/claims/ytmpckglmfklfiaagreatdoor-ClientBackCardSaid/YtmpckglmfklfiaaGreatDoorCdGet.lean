/-
  Numbers of bytes: octet.Get.
-/
import Derived.Test.YtmpckglmfklfiaaGreatDoorCdPut
set_option linter.unusedVariables false
set_option linter.unusedSimpArgs false
namespace Go.Ev
open Int renaming reduceEq → rI
open Nat renaming reduceEqDiff → rN
noncomputable section
section
variable {E : Env} {f : FuncId} {s : St}
theorem get_loop {hi : Nat} {m : List UInt8} {p : Option Addr} {c : Nat} (hm : m.length ≤ 4) (hs : Sl s hi 1 (.slice p m.length c) (m.map ofByte)) {a1 a2 : Value} {fr : Fr} {Q : Ex → Fr → St → Prop}
    (h37 : fr.get 37 = some (.slice p m.length c)) (h38 : fr.get 38 = some (.int .i64 (m.length : Nat))) (h39 : fr.get 39 = some (.int .i64 (0 : Nat))) (h6 : fr.get 6 = some (.int .i64 0)) (h1 : fr.get 1 = some a1) (h2 : fr.get 2 = some a2)
    (hq : ∀ fr, fr.get 6 = some (.int .i64 (beN m : Nat)) → fr.get 1 = some a1 → fr.get 2 = some a2 → Q (.exit 1) fr s) : W E (.loop Code.octet_Get_l0) fr s Q := by
  unfold Code.octet_Get_l0
  refine W_for (n := m.length) (fun i fr t => t = s ∧ fr.get 37 = some (.slice p m.length c) ∧ fr.get 6 = some (.int .i64 (beN (m.take i) : Nat)) ∧ fr.get 1 = some a1 ∧ fr.get 2 = some a2) (by omega) (by decide) ?_ ?_ ?_ 0 (Nat.zero_le _) ⟨rfl, h37, by rw [List.take_zero]; exact h6, h1, h2⟩ h39 h38
  · rintro i fr t x v hx ⟨e0, e1, e2, e3, e4⟩
    refine ⟨e0, ?_, ?_, ?_, ?_⟩ <;> rcases hx with rfl | rfl | rfl <;> simp only [sims, rI, rN, e1, e2, e3, e4]
  · rintro i fr t hi ⟨rfl, e1, e2, e3, e4⟩ h39 h38
    obtain ⟨a, rfl, hcell⟩ := hs.cell (i := i) (by simpa using hi)
    rw [List.getElem?_map, List.getElem?_eq_getElem hi, Option.map_some] at hcell
    have hb : Nat.blt i m.length = true := by rw [Nat.blt_eq]; exact hi
    refine W_seq (W_region (by simp only [sims, rI, rN, e1, h39, hb, hcell]; rfl) ?_)
    have hlt := beN_lt (m.take i)
    have hpow : (256 : Nat) ^ (m.take i).length ≤ 256 ^ 3 := Nat.pow_le_pow_right (by omega) (by rw [List.length_take]; omega)
    have g1 : binOp .shl (.int .i64 (beN (m.take i) : Nat)) (.int .u64 8) = some (.int .i64 ((beN (m.take i) * 2 ^ 8 : Nat) : Int)) := by
      have := shl_nat .i64 .u64 (beN (m.take i)) 8 (by decide)
      rw [wr_i64_nat (by omega)] at this
      exact this
    have hc := m[i].toNat_lt
    have g2 : wr .i64 ((m[i].toNat : Nat) : Int) = ((m[i].toNat : Nat) : Int) := wr_i64_nat (by omega)
    have g3 := or_i64 (beN (m.take i)) m[i].toNat 8 (by omega) (by omega) (by omega)
    refine W_region (by simp only [sims, rI, rN, e2, g1, g2, g3]; rfl) ?_
    refine ⟨⟨rfl, by simp only [sims, rI, rN, e1], ?_, by simp only [sims, rI, rN, e3], by simp only [sims, rI, rN, e4]⟩, by simp only [sims, rI, rN, h39], by simp only [sims, rI, rN, h38]⟩
    rw [List.take_succ_eq_append_getElem hi, beN_snoc]
    simp only [sims, rI, rN]
  · rintro fr t ⟨rfl, e1, e2, e3, e4⟩
    rw [List.take_length] at e2
    exact hq fr e2 e3 e4
theorem Get_run (hC : Codes E) (hf : Has E f Code.octet_Get) {hi : Nat} {v : Value} {l : List UInt8} (hs : Sl s hi 1 v (l.map ofByte)) (hl : l.length ≤ 4611686018427387904) {at_ n : Nat} (ha : at_ ≤ l.length) (hn : n = 1 ∨ n = 2 ∨ n = 4) :
    Cv E f [v, .int .i64 (at_ : Nat), .int .i64 (n : Nat)] s fun r s' => s' = s ∧ r = if at_ + n ≤ l.length then .tuple ⟨[.int .i64 (beN ((l.drop at_).take n) : Nat), .int .i64 ((at_ + n : Nat) : Int), .int .i64 0]⟩ else .tuple ⟨[.int .i64 0, .int .i64 0, .int .i64 6]⟩ := by
  obtain ⟨p, m, c, rfl, hm⟩ := hs.parts
  rw [List.length_map, Nat.mul_one] at hm
  subst hm
  refine Cv_of hf.code ?_
  have h0 : (Tr.ofList (.e : Fr) 0 [.slice p l.length c, .int .i64 (at_ : Nat), .int .i64 (n : Nat)]).get 0 = some (.slice p l.length c) := rfl
  have h1 : (Tr.ofList (.e : Fr) 0 [.slice p l.length c, .int .i64 (at_ : Nat), .int .i64 (n : Nat)]).get 1 = some (.int .i64 (at_ : Nat)) := rfl
  have h2 : (Tr.ofList (.e : Fr) 0 [.slice p l.length c, .int .i64 (at_ : Nat), .int .i64 (n : Nat)]).get 2 = some (.int .i64 (n : Nat)) := rfl
  generalize (Tr.ofList (.e : Fr) 0 [.slice p l.length c, .int .i64 (at_ : Nat), .int .i64 (n : Nat)]) = fr0 at h0 h1 h2
  unfold Code.octet_Get
  have e0 : decide ((n : Int) = 1 ∨ (n : Int) = 2 ∨ (n : Int) = 4) = true := by simp; omega
  have e1 : decide ((at_ : Int) < 0) = false := by simp
  have e2 : decide (((l.length : Nat) : Int) < (at_ : Int)) = false := by simp; omega
  refine W_seq (W_region (by simp only [sims, rI, rN]; rfl) ?_)
  refine W_seq (W_block (W_seq (W_opsM (Wo_run (by simp only [sims, rI, rN, h2]; rfl) (Wo_call hC.octet_isWidth.prim (by simp only [sims, rI, rN]; rfl) ((isWidth_run hC.octet_isWidth _).mono ?_))))))
  rintro _ _ ⟨rfl, hs0⟩
  rw [hs0]; clear hs0
  refine Wo_all (by simp only [sims, rI, rN, Int.ofNat_eq_natCast, h0, h1, e0, e1, e2, Bool.not_true, Bool.not_false]; rfl) ?_
  refine W_else (by simp only [sims, rI, rN]) ?_
  have e3 : wr .i64 (((l.length : Nat) : Int) - (at_ : Int)) = ((l.length - at_ : Nat) : Int) := by rw [wr_i64 (by omega) (by omega)]; omega
  refine W_seq (W_region (by simp only [sims, rI, rN, Int.ofNat_eq_natCast, h0, h1, h2, e3]; rfl) ?_)
  refine W_if (p := ((l.length - at_ : Nat) : Int) < (n : Int)) (by simp only [sims, rI, rN]) (fun hp => ?_) (fun hp => W_skip ?_)
  · refine W_seq (W_region (by simp only [sims, rI, rN]; rfl) (W_ret ⟨rfl, _, res_tmp (res_tmp (res_tmp res_nil)), rfl, ?_⟩))
    rw [if_neg (by omega)]
    simp only [sims, rI, rN, tupled]
  · have hle : at_ + n ≤ l.length := by omega
    have e4 : wr .i64 ((at_ : Int) + (n : Int)) = ((at_ + n : Nat) : Int) := by rw [wr_i64 (by omega) (by omega)]; omega
    obtain ⟨v', g1, g2⟩ := hs.slice (by decide) (l := at_) (k := at_ + n) (by omega) hle
    have g3 : ((l.map ofByte).drop (at_ * 1)).take ((at_ + n - at_) * 1) = (((l.drop at_).take n).map ofByte) := by
      rw [Nat.mul_one, Nat.mul_one, Nat.add_sub_cancel_left, ← List.map_drop, ← List.map_take]
    rw [g3] at g2
    obtain ⟨p', m', c', rfl, hm'⟩ := g2.parts
    rw [List.length_map, Nat.mul_one] at hm'
    subst hm'
    have hlen : ((l.drop at_).take n).length = n := by rw [List.length_take, List.length_drop]; omega
    have g4 := g1
    refine W_seq (W_seq (W_region (by simp only [sims, rI, rN, h0, h1, h2, e4, g4, Int.ofNat_eq_natCast]; rfl) ?_))
    refine W_block (get_loop (by omega) g2 (by simp only [sims, rI, rN]) (by simp only [sims, rI, rN]) (by simp only [sims, rI, rN]; rfl) (by simp only [sims, rI, rN]) (by simp only [sims, rI, rN, h1]; rfl) (by simp only [sims, rI, rN, h2]; rfl) (fun fr g6 k1 k2 => ?_))
    show W E _ _ _ _
    refine W_seq (W_region (by simp only [sims, rI, rN, g6, k1, k2, e4]; rfl) (W_ret ⟨rfl, _, res_tmp (res_tmp (res_tmp res_nil)), rfl, ?_⟩))
    rw [if_pos hle]
    simp only [sims, rI, rN, tupled]
end
end
end Go.Ev
