/-
  The client's small writers: counted texts, numbers, long data, modes; is a number one.
-/
import Derived.Test.YtmpckglmfklfiaaGreatDoorCdLawR
set_option linter.unusedVariables false
set_option linter.unusedSimpArgs false
namespace Go.Ev
open Int renaming reduceEq → rI
open Nat renaming reduceEqDiff → rN
noncomputable section
section
variable {E : Env} {f : FuncId} {s : St}
def countB (l : List UInt8) : List UInt8 := UInt8.ofNat l.length :: l
theorem PutText_run (hC : Codes E) (hf : Has E f Code.octet_PutText) {l : List UInt8} (hl : l.length ≤ 31) : Cv E f [strOf l] s fun r s' => ∃ x, r = .tuple ⟨[x, .int .i64 0]⟩ ∧ Gr s' s.next 1 x ((countB l).map ofByte) ∧ Low s.next s s' := by
  refine Cv_of hf.code ?_
  have h0 : (Tr.ofList (.e : Fr) 0 [strOf l]).get 0 = some (strOf l) := rfl
  generalize (Tr.ofList (.e : Fr) 0 [strOf l]) = fr0 at h0
  unfold Code.octet_PutText
  have e1 : decide ((31 : Int) < (l.length : Int)) = false := by simp; omega
  have e2 := wr_u8_nat l.length
  refine W_seq (W_region (by simp only [sims, rI, rN]; rfl) ?_)
  refine W_seq (W_seq (W_region (by simp only [sims, rI, rN, h0, lenL_eq, Int.ofNat_eq_natCast, e1]; rfl) (W_else (by simp only [sims, rI, rN]) (W_skip ?_))))
  refine W_seq (W_ops ?_)
  refine Wo_run (l := [_, _, _]) (by simp only [sims, rI, rN, h0, lenL_eq, Int.ofNat_eq_natCast, e2]; rfl) ?_
  refine Wo_buildSlice (size := 1) (lo := s.next) (cs := [ofByte (UInt8.ofNat l.length)]) (by simp only [sims, rI, rN]; rw [← ofByte_int, ofByte_ofNat]; rfl) rfl (Nat.le_add_right _ _) (by rw [next_skip]; omega) (by decide) ?_
  rintro s2 ⟨-, g1⟩ g2 hs2
  have l2 : Low s.next s s2 := ((Low.self s).skip 8).trans g2
  refine Wo_run (l := [_]) (by simp only [sims, rI, rN, h0]; rfl) ?_
  refine Wo_append (lo := s.next) (by simp only [sims, rI, rN]) (by simp only [sims, rI, rN]) (g1.weak (Nat.le_add_right _ _)) l2.le (Feed.str s2 l) (by decide) (by simp [room]; omega) ?_
  rintro x s3 g3 g4 -
  refine Wo_all (by simp only [sims, rI, rN]; rfl) (W_ret ⟨rfl, _, res_tmp (res_tmp res_nil), x, by simp only [sims, rI, rN, tupled], ?_, l2.trans g4⟩)
  simpa [countB] using g3
theorem counted_run (hC : Codes E) (hf : Has E f Code.client_counted) {l : List UInt8} (hl : l.length ≤ 31) : Cv E f [strOf l] s fun r s' => Gr s' s.next 1 r ((countB l).map ofByte) ∧ Low s.next s s' := by
  refine Cv_of hf.code ?_
  have h0 : (Tr.ofList (.e : Fr) 0 [strOf l]).get 0 = some (strOf l) := rfl
  generalize (Tr.ofList (.e : Fr) 0 [strOf l]) = fr0 at h0
  unfold Code.client_counted
  have nth0 : ∀ (x y : Value), nthL [x, y] 0 = some x := fun _ _ => rfl
  have nth1 : ∀ (x y : Value), nthL [x, y] 1 = some y := fun _ _ => rfl
  refine W_seq (W_region (by simp only [sims, rI, rN]; rfl) ?_)
  refine W_seq (W_opsM (Wo_run (by simp only [sims, rI, rN, h0]; rfl) (Wo_call hC.octet_PutText.prim (by simp only [sims, rI, rN]; try rfl) ((PutText_run hC hC.octet_PutText hl).mono ?_))))
  rintro _ s2 ⟨x, rfl, g1, g2⟩
  refine Wo_all (by simp only [sims, rI, rN, nth0, nth1]; rfl) ?_
  refine W_seq (W_region (by simp only [sims, rI, rN]; rfl) (W_ret ⟨rfl, _, res_tmp res_nil, ?_, g2⟩))
  simp only [sims, rI, rN, tupled]
  exact g1
theorem number_run (hC : Codes E) (hf : Has E f Code.client_number) {n : Int} (h1 : -2147483648 ≤ n) (h2 : n < 2147483648) : Cv E f [.int .i64 n] s fun r s' => Gr s' s.next 1 r ((beB 4 (n + 2147483648).toNat).map ofByte) ∧ Low s.next s s' := by
  refine Cv_of hf.code ?_
  have h0 : (Tr.ofList (.e : Fr) 0 [.int .i64 n]).get 0 = some (.int .i64 n) := rfl
  generalize (Tr.ofList (.e : Fr) 0 [.int .i64 n]) = fr0 at h0
  unfold Code.client_number
  have nth0 : ∀ (x y : Value), nthL [x, y] 0 = some x := fun _ _ => rfl
  have nth1 : ∀ (x y : Value), nthL [x, y] 1 = some y := fun _ _ => rfl
  have e1 : wr .i64 (n + 2147483648) = n + 2147483648 := wr_i64 (by omega) (by omega)
  refine W_seq (W_region (by simp only [sims, rI, rN]; rfl) ?_)
  refine W_seq (W_opsM (Wo_run (by simp only [sims, rI, rN, h0, e1]; rfl) (Wo_call hC.octet_Put.prim (by simp only [sims, rI, rN]; try rfl) ((Put_run hC hC.octet_Put (n := 4) (by decide) (n + 2147483648)).mono ?_))))
  intro r s2 hr
  have two32 : (2 : Int) ^ (8 * 4) = 4294967296 := by decide
  rw [two32] at hr
  rcases hr with ⟨k1, k2, x, rfl, g1, g2⟩ | ⟨k1, _⟩
  · refine Wo_all (by simp only [sims, rI, rN, nth0, nth1]; rfl) ?_
    refine W_seq (W_region (by simp only [sims, rI, rN]; rfl) (W_ret ⟨rfl, _, res_tmp res_nil, ?_, g2⟩))
    simp only [sims, rI, rN, tupled]
    exact g1
  · omega
theorem long_run (hC : Codes E) (hf : Has E f Code.client_long) {hi : Nat} {v : Value} {l : List UInt8} (hhi : hi ≤ s.next) (hv : Sl s hi 1 v (l.map ofByte)) (hl : l.length ≤ 65535) : Cv E f [v] s fun r s' => Gr s' s.next 1 r ((beB 2 l.length ++ l).map ofByte) ∧ Low s.next s s' := by
  obtain ⟨p, m, c, rfl, hm⟩ := hv.parts
  rw [List.length_map, Nat.mul_one] at hm
  subst hm
  refine Cv_of hf.code ?_
  have h0 : (Tr.ofList (.e : Fr) 0 [.slice p l.length c]).get 0 = some (.slice p l.length c) := rfl
  generalize (Tr.ofList (.e : Fr) 0 [.slice p l.length c]) = fr0 at h0
  unfold Code.client_long
  have nth0 : ∀ (x y : Value), nthL [x, y] 0 = some x := fun _ _ => rfl
  have nth1 : ∀ (x y : Value), nthL [x, y] 1 = some y := fun _ _ => rfl
  refine W_seq (W_region (by simp only [sims, rI, rN]; rfl) ?_)
  refine W_seq (W_opsM (Wo_run (by simp only [sims, rI, rN, h0, Int.ofNat_eq_natCast]; rfl) (Wo_call hC.octet_Put.prim (by simp only [sims, rI, rN]; try rfl) ((Put_run hC hC.octet_Put (n := 2) (by decide) (l.length : Nat)).mono ?_))))
  intro r s2 hr
  have two16 : (2 : Int) ^ (8 * 2) = 65536 := by decide
  rw [two16] at hr
  rcases hr with ⟨k1, k2, x, rfl, g1, g2⟩ | ⟨k1, _⟩
  · rw [Int.toNat_natCast] at g1
    refine Wo_all (by simp only [sims, rI, rN, nth0, nth1]; rfl) ?_
    refine W_seq (W_ops (Wo_run (l := [_, _]) (by simp only [sims, rI, rN, h0]; rfl) ?_))
    refine Wo_append (lo := s.next) (by simp only [sims, rI, rN]) (by simp only [sims, rI, rN]) g1 g2.le (hv.low g2 hhi).feed (by decide) (by simp [room, beB_length]; omega) ?_
    rintro y s3 g3 g4 -
    refine Wo_all (by simp only [sims, rI, rN]; rfl) (W_ret ⟨rfl, _, res_tmp res_nil, ?_, g2.trans g4⟩)
    simp only [sims, rI, rN, tupled]
    rw [List.map_append]
    exact g3
  · omega
def numberOk (n : Int) : Bool := decide (-2147483648 ≤ n ∧ n < 2147483648)
theorem isNumber_run (hf : Has E f Code.client_isNumber) (n : Int) : Cv E f [.int .i64 n] s fun v s' => v = .bool (numberOk n) ∧ s' = s := by
  refine Cv_of hf.code ?_
  have h0 : (Tr.ofList (.e : Fr) 0 [.int .i64 n]).get 0 = some (.int .i64 n) := rfl
  generalize (Tr.ofList (.e : Fr) 0 [.int .i64 n]) = fr0 at h0
  unfold Code.client_isNumber
  refine W_seq (W_region (by simp only [sims, rI, rN]; rfl) ?_)
  cases e1 : decide (-2147483648 ≤ n) <;> cases e2 : decide (n < 2147483648) <;>
    exact W_seq (W_region (by simp only [sims, rI, rN, h0, e1, e2]; rfl) (W_ret ⟨rfl, [_], rfl, by simp only [sims, rI, rN]; simp only [decide_eq_true_eq, decide_eq_false_iff_not] at e1 e2; simp [numberOk, e1, e2, tupled], rfl⟩))
theorem PutCall1_run (hC : Codes E) (hf : Has E f Code.client_PutCall_1) (n : Int) : Cv E f [.int .i64 n] s fun v s' => v = .bool (!numberOk n) ∧ s' = s := by
  refine Cv_of hf.code ?_
  have h0 : (Tr.ofList (.e : Fr) 0 [.int .i64 n]).get 0 = some (.int .i64 n) := rfl
  generalize (Tr.ofList (.e : Fr) 0 [.int .i64 n]) = fr0 at h0
  unfold Code.client_PutCall_1
  refine W_seq (W_region (by simp only [sims, rI, rN]; rfl) ?_)
  refine W_seq (W_opsM (Wo_run (by simp only [sims, rI, rN, h0]; rfl) (Wo_call hC.client_isNumber.prim (by simp only [sims, rI, rN]; try rfl) ((isNumber_run hC.client_isNumber _).mono ?_))))
  rintro _ _ ⟨rfl, hs⟩
  rw [hs]; clear hs
  exact Wo_all (by simp only [sims, rI, rN]; rfl) (W_ret ⟨rfl, _, res_tmp res_nil, by simp only [sims, rI, rN, tupled], rfl⟩)
theorem IndexFunc_run (hC : Codes E) (hf : Has E f Code.slices_IndexFunc_int_int) {hi : Nat} {v : Value} {ns : List Int} (hv : Sl s hi 1 v (ns.map fun n => .int .i64 n)) (hl : ns.length ≤ 4611686018427387904) {g : FuncId} {P : Int → Bool} (hp : E.prim g = none) (hg : ∀ n, Cv E g [.int .i64 n] s fun v t => v = .bool (P n) ∧ t = s) :
    Cv E f [v, .func (.func g) ⟨[]⟩ ⟨[]⟩] s fun r s' => s' = s ∧ ∃ k : Int, r = .int .i64 k ∧ (0 ≤ k ↔ ns.any P = true) := by
  obtain ⟨p, m, c, rfl, hm⟩ := hv.parts
  rw [List.length_map, Nat.mul_one] at hm
  subst hm
  refine Cv_of hf.code ?_
  have h0 : (Tr.ofList (.e : Fr) 0 [.slice p ns.length c, .func (.func g) ⟨[]⟩ ⟨[]⟩]).get 0 = some (.slice p ns.length c) := rfl
  have h1 : (Tr.ofList (.e : Fr) 0 [.slice p ns.length c, .func (.func g) ⟨[]⟩ ⟨[]⟩]).get 1 = some (.func (.func g) ⟨[]⟩ ⟨[]⟩) := rfl
  generalize (Tr.ofList (.e : Fr) 0 [.slice p ns.length c, .func (.func g) ⟨[]⟩ ⟨[]⟩]) = fr0 at h0 h1
  unfold Code.slices_IndexFunc_int_int
  refine W_seq (W_region (by simp only [sims, rI, rN]; rfl) ?_)
  refine W_seq (W_seq (W_region (by simp only [sims, rI, rN, h0, Int.ofNat_eq_natCast]; rfl) ?_))
  refine W_block ?_
  unfold Code.slices_IndexFunc_int_int_l0
  refine W_for (n := ns.length) (fun i fr t => t = s ∧ fr.get 0 = some (.slice p ns.length c) ∧ fr.get 1 = some (.func (.func g) ⟨[]⟩ ⟨[]⟩) ∧ (ns.take i).any P = false) (by omega) (by decide) ?_ ?_ ?_ 0 (Nat.zero_le _) ⟨rfl, by simp only [sims, rI, rN, h0], by simp only [sims, rI, rN, h1], rfl⟩ (by simp only [sims, rI, rN]; rfl) (by simp only [sims, rI, rN])
  · rintro i fr t x v hx ⟨e0, e1, e2, e3⟩
    refine ⟨e0, ?_, ?_, e3⟩ <;> rcases hx with rfl | rfl | rfl <;> simp only [sims, rI, rN, e1, e2]
  · rintro i fr t hlt ⟨rfl, e1, e2, e3⟩ h8 h7
    obtain ⟨a, rfl, hcell⟩ := hv.cell (i := i) (by rw [List.length_map]; exact hlt)
    rw [List.getElem?_map, List.getElem?_eq_getElem hlt, Option.map_some] at hcell
    have hb : Nat.blt i ns.length = true := by rw [Nat.blt_eq]; exact hlt
    refine W_seq (W_region (by simp only [sims, rI, rN, h8]; rfl) ?_)
    refine W_seq (W_opsM (Wo_run (by simp only [sims, rI, rN, e1, e2, h8, hb, hcell]; rfl) (Wo_callV hp (by simp only [sims, rI, rN]; rfl) (by simp only [sims, rI, rN]; rfl) ((hg ns[i]).mono ?_))))
    rintro _ _ ⟨rfl, hs⟩
    rw [hs]; clear hs
    refine Wo_nil ?_
    show W E _ _ _ _
    have htake : (ns.take (i + 1)).any P = P ns[i] := by
      rw [List.take_succ_eq_append_getElem hlt, List.any_append, e3]; simp
    refine W_ifb (q := P ns[i]) (by simp only [sims, rI, rN]) (fun hq => ?_) (fun hq => W_skip ?_)
    · refine W_seq (W_region (by simp only [sims, rI, rN, h8]; rfl) (W_ret ⟨rfl, _, res_tmp res_nil, rfl, (i : Int), by simp only [sims, rI, rN, tupled], ?_⟩))
      constructor
      · intro _
        rw [List.any_eq_true]
        exact ⟨ns[i], List.getElem_mem hlt, hq⟩
      · intro _; omega
    · exact ⟨⟨rfl, by simp only [sims, rI, rN, e1], by simp only [sims, rI, rN, e2], by rw [htake, hq]⟩, by simp only [sims, rI, rN, h8], by simp only [sims, rI, rN, h7]⟩
  · rintro fr t ⟨rfl, e1, e2, e3⟩
    rw [List.take_length] at e3
    show W E _ _ _ _
    refine W_seq (W_region (by simp only [sims, rI, rN]; rfl) (W_ret ⟨rfl, _, res_tmp res_nil, rfl, -1, by simp only [sims, rI, rN, tupled], ?_⟩))
    rw [e3]; simp
theorem ContainsFunc_run (hC : Codes E) (hf : Has E f Code.slices_ContainsFunc_int_int) {hi : Nat} {v : Value} {ns : List Int} (hv : Sl s hi 1 v (ns.map fun n => .int .i64 n)) (hl : ns.length ≤ 4611686018427387904) {g : FuncId} {P : Int → Bool} (hp : E.prim g = none) (hg : ∀ n, Cv E g [.int .i64 n] s fun v t => v = .bool (P n) ∧ t = s) :
    Cv E f [v, .func (.func g) ⟨[]⟩ ⟨[]⟩] s fun r s' => s' = s ∧ r = .bool (ns.any P) := by
  refine Cv_of hf.code ?_
  have h0 : (Tr.ofList (.e : Fr) 0 [v, .func (.func g) ⟨[]⟩ ⟨[]⟩]).get 0 = some v := rfl
  have h1 : (Tr.ofList (.e : Fr) 0 [v, .func (.func g) ⟨[]⟩ ⟨[]⟩]).get 1 = some (.func (.func g) ⟨[]⟩ ⟨[]⟩) := rfl
  generalize (Tr.ofList (.e : Fr) 0 [v, .func (.func g) ⟨[]⟩ ⟨[]⟩]) = fr0 at h0 h1
  unfold Code.slices_ContainsFunc_int_int
  refine W_seq (W_region (by simp only [sims, rI, rN]; rfl) ?_)
  refine W_seq (W_opsM (Wo_run (by simp only [sims, rI, rN, h0, h1]; rfl) (Wo_call hC.slices_IndexFunc_int_int.prim (by simp only [sims, rI, rN]; try rfl) ((IndexFunc_run hC hC.slices_IndexFunc_int_int hv hl hp hg).mono ?_))))
  rintro _ _ ⟨hs, k, rfl, hk⟩
  rw [hs]; clear hs
  refine Wo_all (by simp only [sims, rI, rN]; rfl) (W_ret ⟨rfl, _, res_tmp res_nil, rfl, ?_⟩)
  simp only [sims, rI, rN, tupled]
  congr 1
  cases h : ns.any P with
  | true => rw [decide_eq_true_eq]; exact hk.2 h
  | false => rw [decide_eq_false_iff_not]; intro h2; rw [hk.1 h2] at h; cases h
end
end
end Go.Ev
