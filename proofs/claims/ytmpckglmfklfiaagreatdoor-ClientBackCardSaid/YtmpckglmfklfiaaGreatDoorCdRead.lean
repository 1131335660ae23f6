/-
  The client's reader: what it takes of the bytes, and which error it keeps.
-/
import Derived.Test.YtmpckglmfklfiaaGreatDoorCdPutCall
import Derived.Test.YtmpckglmfklfiaaGreatDoorEvPart3
set_option linter.unusedVariables false
set_option linter.unusedSimpArgs false
namespace Go.Ev
open Int renaming reduceEq → rI
open Nat renaming reduceEqDiff → rN
noncomputable section
def tkP (l : List UInt8) (n : Nat) (x : Nat × Int) : List UInt8 × (Nat × Int) :=
  if x.2 = 0 then (if x.1 + n ≤ l.length then ((l.drop x.1).take n, (x.1 + n, 0)) else (List.replicate n 0, (x.1, 6))) else (List.replicate n 0, x)
def failP (x : Nat × Int) : Nat × Int := if x.2 = 0 then (x.1, 3) else x
def fxP (l : List UInt8) (n : Nat) (x : Nat × Int) : Nat × (Nat × Int) := (beN (tkP l n x).1, (tkP l n x).2)
def nmP (l : List UInt8) (x : Nat × Int) : Int × (Nat × Int) := ((((fxP l 4 x).1 : Nat) : Int) - 2147483648, (fxP l 4 x).2)
def txP (l : List UInt8) (x : Nat × Int) : List UInt8 × (Nat × Int) := if 31 < (fxP l 1 x).1 then ([], failP (fxP l 1 x).2) else tkP l (fxP l 1 x).1 (fxP l 1 x).2
def lgP (l : List UInt8) (most : Nat) (x : Nat × Int) : List UInt8 × (Nat × Int) := if most < (fxP l 2 x).1 then ([], failP (fxP l 2 x).2) else tkP l (fxP l 2 x).1 (fxP l 2 x).2
def msP (l : List UInt8) (most : Nat) (x : Nat × Int) : Nat × (Nat × Int) := ((fxP l 1 x).1, if most < (fxP l 1 x).1 then failP (fxP l 1 x).2 else (fxP l 1 x).2)
def enP (l : List UInt8) (x : Nat × Int) : Nat × Int := if x.1 = l.length then x else failP x
theorem tkP_len (l : List UInt8) (n : Nat) (x : Nat × Int) : (tkP l n x).1.length = n := by
  unfold tkP
  split
  · split
    · simp; omega
    · simp
  · simp
theorem tkP_le {l : List UInt8} {n : Nat} {x : Nat × Int} (h : x.1 ≤ l.length) : (tkP l n x).2.1 ≤ l.length := by
  unfold tkP
  split
  · split <;> simp <;> omega
  · exact h
theorem failP_1 (x : Nat × Int) : (failP x).1 = x.1 := by unfold failP; split <;> rfl
theorem fxP_lt (l : List UInt8) (n : Nat) (x : Nat × Int) : (fxP l n x).1 < 256 ^ n := by
  have := beN_lt (tkP l n x).1
  rw [tkP_len] at this
  exact this
structure Rd (s : St) (hi a : Nat) (v : Value) (l : List UInt8) (x : Nat × Int) : Prop where
  row : Row s a [v, .int .i64 (x.1 : Nat), .int .i64 x.2]
  sl : Sl s hi 1 v (l.map ofByte)
  ge : hi ≤ a
  lt : a < s.next
  le : x.1 ≤ l.length
  few : l.length ≤ 65536
section
variable {E : Env} {f : FuncId} {s t : St} {hi a : Nat} {v : Value} {l : List UInt8} {x : Nat × Int}
theorem Rd.slice (h : Rd s hi a v l x) : ∃ p c, v = .slice p l.length c := by
  obtain ⟨p, m, c, rfl, hm⟩ := h.sl.parts
  rw [List.length_map, Nat.mul_one] at hm
  exact ⟨p, c, by rw [hm]⟩
theorem Rd.put {y : Nat × Int} (h : Rd s hi a v l x) (hr : Row t a [v, .int .i64 (y.1 : Nat), .int .i64 y.2]) (hb : But a s t) (hy : y.1 ≤ l.length) : Rd t hi a v l y :=
  ⟨hr, h.sl.but hb (Nat.le_trans h.ge (Nat.le_of_lt h.lt)) h.ge, h.ge, Nat.lt_of_lt_of_le h.lt hb.1, hy, h.few⟩
theorem Rd.low {lo : Nat} (h : Rd s hi a v l x) (k : Low lo s t) (hl : a < lo) : Rd t hi a v l x :=
  ⟨h.row.low k hl, h.sl.low k (Nat.le_trans h.ge (Nat.le_of_lt hl)), h.ge, Nat.lt_of_lt_of_le h.lt k.2.1, h.le, h.few⟩
theorem Rd.but {b : Nat} (h : Rd s hi a v l x) (k : But b s t) (hb : a ≠ b) (hh : hi ≤ b) : Rd t hi a v l x :=
  ⟨h.row.but k h.lt hb, h.sl.but k (Nat.le_trans h.ge (Nat.le_of_lt h.lt)) hh, h.ge, Nat.lt_of_lt_of_le h.lt k.1, h.le, h.few⟩
theorem fail_run (hf : Has E f Code._tithing_client_reader_fail) (R : Rd s hi a v l x) : Cv E f [ptr a 0] s fun r s' => r = .tuple ⟨[]⟩ ∧ Rd s' hi a v l (failP x) ∧ But a s s' := by
  obtain ⟨k, e⟩ := x
  refine Cv_of hf.code ?_
  have h0 : (Tr.ofList (.e : Fr) 0 [ptr a 0]).get 0 = some (ptr a 0) := rfl
  generalize (Tr.ofList (.e : Fr) 0 [ptr a 0]) = fr0 at h0
  unfold Code._tithing_client_reader_fail
  have c2 : s.cell ⟨a, 2, none⟩ = some (.int .i64 e) := R.row.cell 2
  by_cases he : e = 0
  · subst he
    obtain ⟨t, p1, R1, n1, f1⟩ := R.row.put (o := 2) (vs := [.int .i64 3]) (by simp)
    have B1 := but_put n1 f1
    refine W_seq (W_region (by simp only [sims, rI, rN, h0, c2, nilOk_ptr]; rfl) ?_)
    refine W_then (by simp only [sims, rI, rN]) (W_region (by simp only [sims, rI, rN, h0, nilOk_ptr, p1]; rfl) ⟨rfl, _, res_nil, rfl, R.put R1 B1 R.le, B1⟩)
  · have d : decide (e = 0) = false := by simp [he]
    refine W_seq (W_region (by simp only [sims, rI, rN, h0, c2, nilOk_ptr, d]; rfl) ?_)
    refine W_else (by simp only [sims, rI, rN]) (W_skip ⟨rfl, _, res_nil, rfl, ?_, But.refl _ _⟩)
    unfold failP
    rw [if_neg (show ¬ ((k, e) : Nat × Int).2 = 0 from he)]
    exact R
theorem take_run (hf : Has E f Code._tithing_client_reader_take) (R : Rd s hi a v l x) {n : Nat} (hn : n ≤ 65535) : Cv E f [ptr a 0, .int .i64 (n : Nat)] s fun r s' => Rd s' hi a v l (tkP l n x).2 ∧ But a s s' ∧ Sl s' s'.next 1 r ((tkP l n x).1.map ofByte) := by
  obtain ⟨k, e⟩ := x
  obtain ⟨p, c, rfl⟩ := R.slice
  have hk := R.le
  have hl := R.few
  refine Cv_of hf.code ?_
  have h0 : (Tr.ofList (.e : Fr) 0 [ptr a 0, .int .i64 (n : Nat)]).get 0 = some (ptr a 0) := rfl
  have h1 : (Tr.ofList (.e : Fr) 0 [ptr a 0, .int .i64 (n : Nat)]).get 1 = some (.int .i64 (n : Nat)) := rfl
  generalize (Tr.ofList (.e : Fr) 0 [ptr a 0, .int .i64 (n : Nat)]) = fr0 at h0 h1
  unfold Code._tithing_client_reader_take
  have c0 : s.cell ⟨a, 0, none⟩ = some (.slice p l.length c) := R.row.cell 0
  have c1 : s.cell ⟨a, 1, none⟩ = some (.int .i64 (k : Nat)) := R.row.cell 1
  have c2 : s.cell ⟨a, 2, none⟩ = some (.int .i64 e) := R.row.cell 2
  simp only at hk
  have e1 : wr .i64 (((l.length : Nat) : Int) - (k : Int)) = ((l.length - k : Nat) : Int) := by rw [wr_i64 (by omega) (by omega)]; omega
  have zer : ∀ (T : TypeId) (t : St), Rd t hi a (.slice p l.length c) l (tkP l n (k, e)).2 → But a s t → (tkP l n (k, e)).1 = List.replicate n 0 → ∀ fr : Fr, fr.get 1 = some (.int .i64 (n : Nat)) → ∀ Q : Ex → Fr → St → Prop,
      (∀ fr s', (isExit .ret = false ∧ ∃ m, optL (oneRes fr s') [.tmp 4] = some m ∧ (Rd s' hi a (.slice p l.length c) l (tkP l n (k, e)).2 ∧ But a s s' ∧ Sl s' s'.next 1 (tupled m) ((tkP l n (k, e)).1.map ofByte))) → Q .ret fr s') →
      W E (.seq (.region 3 [⟨some 32, .mov (.t 1), none, 0, []⟩, ⟨some 33, .mkSlice T 1 [.int .u8 0] (.t 32) (.t 32), none, 1, []⟩, ⟨some 4, .mov (.t 33), none, 2, []⟩]) .ret) fr t Q := by
    intro T t R1 B1 hz fr g1 Q hQ
    refine W_seq (W_ops (Wo_run (l := [_]) (by simp only [sims, rI, rN, g1]; rfl) ?_))
    refine Wo_mkSlice (lo := t.next) (size := 1) (n := n) (by simp only [sims, rI, rN, g1]) (by simp only [sims, rI, rN, g1]) (by simp [room]; omega) (by simp [room]; omega) rfl (Nat.le_add_right _ _) (by rw [next_skip]; omega) ?_
    intro s2 g2 g3 hs2
    have l2 : Low t.next t s2 := ((Low.self t).skip 3).trans g3
    have hn2 : s2.next = t.next + 3 := by rw [hs2, St.next_set, next_skip]
    refine Wo_all (by simp only [sims, rI, rN]; rfl) (W_ret (hQ _ _ ⟨rfl, _, res_tmp res_nil, R1.low l2 R1.lt, B1.trans (l2.but a), ?_⟩))
    simp only [sims, rI, rN, tupled]
    rw [hz, List.map_replicate]
    rw [flat1] at g2
    exact g2.wide (by omega)
  refine W_seq (W_region (by simp only [sims, rI, rN]; rfl) ?_)
  by_cases he : e = 0
  · subst he
    by_cases hkn : k + n ≤ l.length
    · have ht : tkP l n (k, 0) = ((l.drop k).take n, (k + n, 0)) := by
        unfold tkP; rw [if_pos rfl, if_pos hkn]
      have d1 : decide (((l.length - k : Nat) : Int) < ((n : Nat) : Int)) = false := by simp; omega
      refine W_seq (W_seq (W_region (by simp only [sims, rI, rN, h0, h1, c0, c1, c2, nilOk_ptr, lenL_eq, Int.ofNat_eq_natCast, e1, d1]; rfl) ?_))
      refine W_else (by simp only [sims, rI, rN]) (W_skip ?_)
      refine W_seq (W_seq (W_region (by simp only [sims, rI, rN, h0, c2, nilOk_ptr]; rfl) ?_))
      refine W_else (by simp only [sims, rI, rN]) (W_skip ?_)
      have e2 : wr .i64 ((k : Int) + (n : Int)) = ((k + n : Nat) : Int) := by rw [wr_i64 (by omega) (by omega)]; omega
      obtain ⟨t, p1, R1, n1, f1⟩ := R.row.put (o := 1) (vs := [.int .i64 ((k + n : Nat) : Int)]) (by simp)
      have B1 := but_put n1 f1
      have R2 : Rd t hi a (.slice p l.length c) l (k + n, 0) := R.put R1 B1 hkn
      refine W_seq (W_region (by simp only [sims, rI, rN, h0, h1, c1, nilOk_ptr, e2, p1]; rfl) ?_)
      have b0 : t.cell ⟨a, 0, none⟩ = some (.slice p l.length c) := R1.cell 0
      have b1 : t.cell ⟨a, 1, none⟩ = some (.int .i64 ((k + n : Nat) : Int)) := R1.cell 1
      have e3 : wr .i64 (((k + n : Nat) : Int) - (n : Int)) = (k : Int) := by rw [wr_i64 (by omega) (by omega)]; omega
      obtain ⟨w, g1, g2⟩ := R2.sl.slice (by decide) (l := k) (k := k + n) (by omega) hkn
      refine W_seq (W_region (by simp only [sims, rI, rN, h0, h1, b0, b1, nilOk_ptr, e3, g1]; rfl) ?_)
      refine W_ret ⟨rfl, _, res_tmp res_nil, ?_⟩
      simp only [sims, rI, rN, tupled]
      rw [ht]
      refine ⟨R2, B1, ?_⟩
      have g3 : ((l.map ofByte).drop (k * 1)).take ((k + n - k) * 1) = (((l.drop k).take n).map ofByte) := by
        rw [Nat.mul_one, Nat.mul_one, Nat.add_sub_cancel_left, ← List.map_drop, ← List.map_take]
      rw [g3] at g2
      exact g2.wide (Nat.le_trans R2.ge (Nat.le_of_lt R2.lt))
    · have ht : tkP l n (k, 0) = (List.replicate n 0, (k, 6)) := by
        unfold tkP; rw [if_pos rfl, if_neg hkn]
      have d1 : decide (((l.length - k : Nat) : Int) < ((n : Nat) : Int)) = true := by simp; omega
      obtain ⟨t, p1, R1, n1, f1⟩ := R.row.put (o := 2) (vs := [.int .i64 6]) (by simp)
      have B1 := but_put n1 f1
      have R2 : Rd t hi a (.slice p l.length c) l (k, 6) := R.put R1 B1 R.le
      have b2 : t.cell ⟨a, 2, none⟩ = some (.int .i64 6) := R1.cell 2
      refine W_seq (W_seq (W_region (by simp only [sims, rI, rN, h0, h1, c0, c1, c2, nilOk_ptr, lenL_eq, Int.ofNat_eq_natCast, e1, d1]; rfl) ?_))
      refine W_then (by simp only [sims, rI, rN]) (W_region (by simp only [sims, rI, rN, h0, nilOk_ptr, p1]; rfl) ?_)
      refine W_seq (W_seq (W_region (by simp only [sims, rI, rN, h0, b2, nilOk_ptr]; rfl) ?_))
      refine W_then (by simp only [sims, rI, rN]) ?_
      refine zer _ t (by rw [ht]; exact R2) B1 (by rw [ht]) _ ?_ _ (fun _ _ h => h)
      first | exact h1 | simp only [sims, rI, rN, h1]
  · have ht : tkP l n (k, e) = (List.replicate n 0, (k, e)) := by
      unfold tkP; rw [if_neg (show ¬ ((k, e) : Nat × Int).2 = 0 from he)]
    have d : decide (e = 0) = false := by simp [he]
    refine W_seq (W_seq (W_region (by simp only [sims, rI, rN, h0, h1, c0, c1, c2, nilOk_ptr, d]; rfl) ?_))
    refine W_else (by simp only [sims, rI, rN]) (W_skip ?_)
    refine W_seq (W_seq (W_region (by simp only [sims, rI, rN, h0, c2, nilOk_ptr, d]; rfl) ?_))
    refine W_then (by simp only [sims, rI, rN]) ?_
    refine zer _ s (by rw [ht]; exact R) (But.refl _ _) (by rw [ht]) _ ?_ _ (fun _ _ h => h)
    first | exact h1 | simp only [sims, rI, rN, h1]
theorem fixed_run (hC : Codes E) (hf : Has E f Code._tithing_client_reader_fixed) (R : Rd s hi a v l x) {n : Nat} (hn : n = 1 ∨ n = 2 ∨ n = 4) : Cv E f [ptr a 0, .int .i64 (n : Nat)] s fun r s' => r = .int .i64 ((fxP l n x).1 : Nat) ∧ Rd s' hi a v l (fxP l n x).2 ∧ But a s s' := by
  refine Cv_of hf.code ?_
  have h0 : (Tr.ofList (.e : Fr) 0 [ptr a 0, .int .i64 (n : Nat)]).get 0 = some (ptr a 0) := rfl
  have h1 : (Tr.ofList (.e : Fr) 0 [ptr a 0, .int .i64 (n : Nat)]).get 1 = some (.int .i64 (n : Nat)) := rfl
  generalize (Tr.ofList (.e : Fr) 0 [ptr a 0, .int .i64 (n : Nat)]) = fr0 at h0 h1
  unfold Code._tithing_client_reader_fixed
  have nth0 : ∀ (x y z : Value), nthL [x, y, z] 0 = some x := fun _ _ _ => rfl
  have nth1 : ∀ (x y z : Value), nthL [x, y, z] 1 = some y := fun _ _ _ => rfl
  have nth2 : ∀ (x y z : Value), nthL [x, y, z] 2 = some z := fun _ _ _ => rfl
  refine W_seq (W_region (by simp only [sims, rI, rN]; rfl) ?_)
  first | refine W_seq (W_opsM (Wo_run (by simp only [sims, rI, rN, h0, h1]; rfl) (Wo_call hC._tithing_client_reader_take.prim (by simp only [sims, rI, rN, h0, h1]; try rfl) ((take_run hC._tithing_client_reader_take R (n := n) (by omega)).mono ?_)))) | refine W_seq (W_ops (Wo_run (by simp only [sims, rI, rN, h0, h1]; rfl) (Wo_call hC._tithing_client_reader_take.prim (by simp only [sims, rI, rN, h0, h1]; try rfl) ((take_run hC._tithing_client_reader_take R (n := n) (by omega)).mono ?_))))
  rintro w s2 ⟨R2, B2, S2⟩
  have hlen := tkP_len l n x
  refine Wo_run (by simp only [sims, rI, rN, h1]; rfl) (Wo_call hC.octet_Get.prim (args := [w, .int .i64 (0 : Nat), .int .i64 (n : Nat)]) (by simp only [sims, rI, rN, h1]; try rfl) ((Get_run hC hC.octet_Get S2 (by omega) (at_ := 0) (n := n) (Nat.zero_le _) hn).mono ?_))
  rintro _ _ ⟨hs, rfl⟩
  rw [hs]; clear hs
  rw [if_pos (by omega), List.drop_zero, List.take_of_length_le (by omega)]
  refine Wo_all (by simp only [sims, rI, rN, nth0, nth1, nth2]; rfl) ?_
  refine W_seq (W_region (by simp only [sims, rI, rN]; rfl) ?_)
  exact W_ret ⟨rfl, _, res_tmp res_nil, by simp only [sims, rI, rN, tupled]; try rfl, R2, B2⟩
theorem number_r_run (hC : Codes E) (hf : Has E f Code._tithing_client_reader_number) (R : Rd s hi a v l x) : Cv E f [ptr a 0] s fun r s' => r = .int .i64 (nmP l x).1 ∧ Rd s' hi a v l (nmP l x).2 ∧ But a s s' := by
  refine Cv_of hf.code ?_
  have h0 : (Tr.ofList (.e : Fr) 0 [ptr a 0]).get 0 = some (ptr a 0) := rfl
  generalize (Tr.ofList (.e : Fr) 0 [ptr a 0]) = fr0 at h0
  unfold Code._tithing_client_reader_number
  refine W_seq (W_region (by simp only [sims, rI, rN]; rfl) ?_)
  first | refine W_seq (W_opsM (Wo_run (by simp only [sims, rI, rN, h0]; rfl) (Wo_call hC._tithing_client_reader_fixed.prim (by simp only [sims, rI, rN, h0]; try rfl) ((fixed_run hC hC._tithing_client_reader_fixed R (n := 4) (by decide)).mono ?_)))) | refine W_seq (W_ops (Wo_run (by simp only [sims, rI, rN, h0]; rfl) (Wo_call hC._tithing_client_reader_fixed.prim (by simp only [sims, rI, rN, h0]; try rfl) ((fixed_run hC hC._tithing_client_reader_fixed R (n := 4) (by decide)).mono ?_))))
  rintro _ s2 ⟨rfl, R2, B2⟩
  have hlt := fxP_lt l 4 x
  have e1 : wr .i64 ((((fxP l 4 x).1 : Nat) : Int) - 2147483648) = (((fxP l 4 x).1 : Nat) : Int) - 2147483648 := wr_i64 (by omega) (by omega)
  refine Wo_all (by simp only [sims, rI, rN, e1]; rfl) ?_
  exact W_ret ⟨rfl, _, res_tmp res_nil, by simp only [sims, rI, rN, tupled]; try rfl, R2, B2⟩
theorem text_run (hC : Codes E) (hf : Has E f Code._tithing_client_reader_text) (R : Rd s hi a v l x) : Cv E f [ptr a 0] s fun r s' => r = strOf (txP l x).1 ∧ Rd s' hi a v l (txP l x).2 ∧ But a s s' := by
  refine Cv_of hf.code ?_
  have h0 : (Tr.ofList (.e : Fr) 0 [ptr a 0]).get 0 = some (ptr a 0) := rfl
  generalize (Tr.ofList (.e : Fr) 0 [ptr a 0]) = fr0 at h0
  unfold Code._tithing_client_reader_text
  refine W_seq (W_region (by simp only [sims, rI, rN]; rfl) ?_)
  first | refine W_seq (W_opsM (Wo_run (by simp only [sims, rI, rN, h0]; rfl) (Wo_call hC._tithing_client_reader_fixed.prim (by simp only [sims, rI, rN, h0]; try rfl) ((fixed_run hC hC._tithing_client_reader_fixed R (n := 1) (by decide)).mono ?_)))) | refine W_seq (W_ops (Wo_run (by simp only [sims, rI, rN, h0]; rfl) (Wo_call hC._tithing_client_reader_fixed.prim (by simp only [sims, rI, rN, h0]; try rfl) ((fixed_run hC hC._tithing_client_reader_fixed R (n := 1) (by decide)).mono ?_))))
  rintro _ s2 ⟨rfl, R2, B2⟩
  have hlt := fxP_lt l 1 x
  refine Wo_all (by simp only [sims, rI, rN]; rfl) ?_
  unfold txP
  by_cases hq : 31 < (fxP l 1 x).1
  · have d : decide ((31 : Int) < ((fxP l 1 x).1 : Nat)) = true := by simp; omega
    rw [if_pos hq]
    refine W_seq (W_seq (W_region (by simp only [sims, rI, rN, d]; rfl) ?_))
    refine W_then (by simp only [sims, rI, rN]) ?_
    first | refine W_seq (W_opsM (Wo_run (by simp only [sims, rI, rN, h0]; rfl) (Wo_call hC._tithing_client_reader_fail.prim (by simp only [sims, rI, rN, h0]; try rfl) ((fail_run hC._tithing_client_reader_fail R2).mono ?_)))) | refine W_seq (W_ops (Wo_run (by simp only [sims, rI, rN, h0]; rfl) (Wo_call hC._tithing_client_reader_fail.prim (by simp only [sims, rI, rN, h0]; try rfl) ((fail_run hC._tithing_client_reader_fail R2).mono ?_))))
    rintro _ s3 ⟨rfl, R3, B3⟩
    refine Wo_nil ?_
    refine W_seq (W_region (by simp only [sims, rI, rN]; rfl) ?_)
    exact W_ret ⟨rfl, _, res_tmp res_nil, by simp only [sims, rI, rN, tupled]; try rfl, R3, B2.trans B3⟩
  · have d : decide ((31 : Int) < ((fxP l 1 x).1 : Nat)) = false := by simp; omega
    rw [if_neg hq]
    refine W_seq (W_seq (W_region (by simp only [sims, rI, rN, d]; rfl) ?_))
    refine W_else (by simp only [sims, rI, rN]) (W_skip ?_)
    first | refine W_seq (W_opsM (Wo_run (by simp only [sims, rI, rN, h0]; rfl) (Wo_call hC._tithing_client_reader_take.prim (by simp only [sims, rI, rN, h0]; try rfl) ((take_run hC._tithing_client_reader_take R2 (n := (fxP l 1 x).1) (by omega)).mono ?_)))) | refine W_seq (W_ops (Wo_run (by simp only [sims, rI, rN, h0]; rfl) (Wo_call hC._tithing_client_reader_take.prim (by simp only [sims, rI, rN, h0]; try rfl) ((take_run hC._tithing_client_reader_take R2 (n := (fxP l 1 x).1) (by omega)).mono ?_))))
    rintro w s3 ⟨R3, B3, S3⟩
    refine Wo_op (v := strOf (tkP l (fxP l 1 x).1 (fxP l 1 x).2).1) (s' := s3) (convBS_of (by simp only [sims, rI, rN]) S3 _ _) ?_
    refine Wo_all (by simp only [sims, rI, rN]; rfl) ?_
    exact W_ret ⟨rfl, _, res_tmp res_nil, by simp only [sims, rI, rN, tupled]; try rfl, R3, B2.trans B3⟩
theorem Clone_run (hf : Has E f Code.slices_Clone_byte_byte) {hi : Nat} {v : Value} {m : List UInt8} (hhi : hi ≤ s.next) (hv : Sl s hi 1 v (m.map ofByte)) (hm : m.length ≤ 1000000) : Cv E f [v] s fun r s' => Low s.next s s' ∧ Gr s' s.next 1 r (m.map ofByte) := by
  obtain ⟨p, n, c, rfl, hn⟩ := hv.parts
  rw [List.length_map, Nat.mul_one] at hn
  subst hn
  refine Cv_of hf.code ?_
  have h0 : (Tr.ofList (.e : Fr) 0 [.slice p m.length c]).get 0 = some (.slice p m.length c) := rfl
  generalize (Tr.ofList (.e : Fr) 0 [.slice p m.length c]) = fr0 at h0
  unfold Code.slices_Clone_byte_byte
  refine W_seq (W_region (by simp only [sims, rI, rN]; rfl) ?_)
  cases p with
  | none =>
    have hm0 : m = [] := by
      cases hv' : m with
      | nil => rfl
      | cons y m' => rw [hv'] at hv; cases hv
    subst hm0
    have e1 : isNil .sl (.slice none ([] : List UInt8).length c) = some true := rfl
    refine W_seq (W_seq (W_region (by simp only [sims, rI, rN, h0, e1]; rfl) ?_))
    refine W_then (by simp only [sims, rI, rN]) ?_
    refine W_seq (W_region (by simp only [sims, rI, rN]; rfl) ?_)
    refine W_ret ⟨rfl, _, res_tmp res_nil, Low.self s, ?_⟩
    simp only [sims, rI, rN, tupled]
    exact .nil
  | some q =>
    have e1 : isNil .sl (.slice (some q) m.length c) = some false := rfl
    refine W_seq (W_seq (W_region (by simp only [sims, rI, rN, h0, e1]; rfl) ?_))
    refine W_else (by simp only [sims, rI, rN]) (W_skip ?_)
    refine W_seq (W_ops ?_)
    refine Wo_buildSlice (size := 1) (lo := s.next) (cs := []) rfl rfl (Nat.le_add_right _ _) (by rw [next_skip]; omega) (by decide) ?_
    rintro s2 ⟨-, g1⟩ g2 hs2
    have l2 : Low s.next s s2 := ((Low.self s).skip 4).trans g2
    refine Wo_run (l := [_]) (by simp only [sims, rI, rN, h0]; rfl) ?_
    refine Wo_append (lo := s.next) (by simp only [sims, rI, rN]) (by simp only [sims, rI, rN]) (g1.weak (Nat.le_add_right _ _)) l2.le (hv.low l2 hhi).feed (by decide) (by simp [room]; omega) ?_
    rintro y s3 g3 g4 -
    refine Wo_all (by simp only [sims, rI, rN]; rfl) (W_ret ⟨rfl, _, res_tmp res_nil, l2.trans g4, ?_⟩)
    simp only [sims, rI, rN, tupled]
    simpa using g3
theorem long_r_run (hC : Codes E) (hf : Has E f Code._tithing_client_reader_long) (R : Rd s hi a v l x) {n : Nat} (hn : n ≤ 65535) : Cv E f [ptr a 0, .int .i64 (n : Nat)] s fun r s' => Rd s' hi a v l (lgP l n x).2 ∧ But a s s' ∧ Gr s' s.next 1 r ((lgP l n x).1.map ofByte) := by
  refine Cv_of hf.code ?_
  have h0 : (Tr.ofList (.e : Fr) 0 [ptr a 0, .int .i64 (n : Nat)]).get 0 = some (ptr a 0) := rfl
  have h1 : (Tr.ofList (.e : Fr) 0 [ptr a 0, .int .i64 (n : Nat)]).get 1 = some (.int .i64 (n : Nat)) := rfl
  generalize (Tr.ofList (.e : Fr) 0 [ptr a 0, .int .i64 (n : Nat)]) = fr0 at h0 h1
  unfold Code._tithing_client_reader_long
  refine W_seq (W_region (by simp only [sims, rI, rN]; rfl) ?_)
  first | refine W_seq (W_opsM (Wo_run (by simp only [sims, rI, rN, h0]; rfl) (Wo_call hC._tithing_client_reader_fixed.prim (by simp only [sims, rI, rN, h0]; try rfl) ((fixed_run hC hC._tithing_client_reader_fixed R (n := 2) (by decide)).mono ?_)))) | refine W_seq (W_ops (Wo_run (by simp only [sims, rI, rN, h0]; rfl) (Wo_call hC._tithing_client_reader_fixed.prim (by simp only [sims, rI, rN, h0]; try rfl) ((fixed_run hC hC._tithing_client_reader_fixed R (n := 2) (by decide)).mono ?_))))
  rintro _ s2 ⟨rfl, R2, B2⟩
  have hlt := fxP_lt l 2 x
  refine Wo_all (by simp only [sims, rI, rN]; rfl) ?_
  unfold lgP
  by_cases hq : n < (fxP l 2 x).1
  · have d : decide (((n : Nat) : Int) < ((fxP l 2 x).1 : Nat)) = true := by simp; omega
    rw [if_pos hq]
    refine W_seq (W_seq (W_region (by simp only [sims, rI, rN, h1, d]; rfl) ?_))
    refine W_then (by simp only [sims, rI, rN]) ?_
    first | refine W_seq (W_opsM (Wo_run (by simp only [sims, rI, rN, h0]; rfl) (Wo_call hC._tithing_client_reader_fail.prim (by simp only [sims, rI, rN, h0]; try rfl) ((fail_run hC._tithing_client_reader_fail R2).mono ?_)))) | refine W_seq (W_ops (Wo_run (by simp only [sims, rI, rN, h0]; rfl) (Wo_call hC._tithing_client_reader_fail.prim (by simp only [sims, rI, rN, h0]; try rfl) ((fail_run hC._tithing_client_reader_fail R2).mono ?_))))
    rintro _ s3 ⟨rfl, R3, B3⟩
    refine Wo_nil ?_
    refine W_seq (W_region (by simp only [sims, rI, rN]; rfl) ?_)
    refine W_ret ⟨rfl, _, res_tmp res_nil, ?_⟩
    simp only [sims, rI, rN, tupled]
    exact ⟨R3, B2.trans B3, .nil⟩
  · have d : decide (((n : Nat) : Int) < ((fxP l 2 x).1 : Nat)) = false := by simp; omega
    rw [if_neg hq]
    refine W_seq (W_seq (W_region (by simp only [sims, rI, rN, h1, d]; rfl) ?_))
    refine W_else (by simp only [sims, rI, rN]) (W_skip ?_)
    first | refine W_seq (W_opsM (Wo_run (by simp only [sims, rI, rN, h0]; rfl) (Wo_call hC._tithing_client_reader_take.prim (by simp only [sims, rI, rN, h0]; try rfl) ((take_run hC._tithing_client_reader_take R2 (n := (fxP l 2 x).1) (by omega)).mono ?_)))) | refine W_seq (W_ops (Wo_run (by simp only [sims, rI, rN, h0]; rfl) (Wo_call hC._tithing_client_reader_take.prim (by simp only [sims, rI, rN, h0]; try rfl) ((take_run hC._tithing_client_reader_take R2 (n := (fxP l 2 x).1) (by omega)).mono ?_))))
    rintro w s3 ⟨R3, B3, S3⟩
    refine Wo_call hC.slices_Clone_byte_byte.prim (by simp only [sims, rI, rN]; try rfl) ((Clone_run hC.slices_Clone_byte_byte (Nat.le_refl _) S3 (by rw [tkP_len]; omega)).mono ?_)
    rintro y s4 ⟨l4, g4⟩
    refine Wo_all (by simp only [sims, rI, rN]; rfl) ?_
    refine W_ret ⟨rfl, _, res_tmp res_nil, ?_⟩
    simp only [sims, rI, rN, tupled]
    exact ⟨R3.low l4 R3.lt, (B2.trans B3).trans (l4.but a), g4.weak (Nat.le_trans B2.1 B3.1)⟩
theorem most_run (hC : Codes E) (hf : Has E f Code._tithing_client_reader_most) (R : Rd s hi a v l x) {n : Nat} (hn : n ≤ 65535) : Cv E f [ptr a 0, .int .i64 (n : Nat)] s fun r s' => r = .int .i64 ((msP l n x).1 : Nat) ∧ Rd s' hi a v l (msP l n x).2 ∧ But a s s' := by
  refine Cv_of hf.code ?_
  have h0 : (Tr.ofList (.e : Fr) 0 [ptr a 0, .int .i64 (n : Nat)]).get 0 = some (ptr a 0) := rfl
  have h1 : (Tr.ofList (.e : Fr) 0 [ptr a 0, .int .i64 (n : Nat)]).get 1 = some (.int .i64 (n : Nat)) := rfl
  generalize (Tr.ofList (.e : Fr) 0 [ptr a 0, .int .i64 (n : Nat)]) = fr0 at h0 h1
  unfold Code._tithing_client_reader_most
  refine W_seq (W_region (by simp only [sims, rI, rN]; rfl) ?_)
  first | refine W_seq (W_opsM (Wo_run (by simp only [sims, rI, rN, h0]; rfl) (Wo_call hC._tithing_client_reader_fixed.prim (by simp only [sims, rI, rN, h0]; try rfl) ((fixed_run hC hC._tithing_client_reader_fixed R (n := 1) (by decide)).mono ?_)))) | refine W_seq (W_ops (Wo_run (by simp only [sims, rI, rN, h0]; rfl) (Wo_call hC._tithing_client_reader_fixed.prim (by simp only [sims, rI, rN, h0]; try rfl) ((fixed_run hC hC._tithing_client_reader_fixed R (n := 1) (by decide)).mono ?_))))
  rintro _ s2 ⟨rfl, R2, B2⟩
  have hlt := fxP_lt l 1 x
  refine Wo_all (by simp only [sims, rI, rN]; rfl) ?_
  unfold msP
  by_cases hq : n < (fxP l 1 x).1
  · have d : decide (((n : Nat) : Int) < ((fxP l 1 x).1 : Nat)) = true := by simp; omega
    rw [if_pos hq]
    refine W_seq (W_seq (W_region (by simp only [sims, rI, rN, h1, d]; rfl) ?_))
    refine W_then (by simp only [sims, rI, rN]) ?_
    first | refine W_opsM (Wo_run (by simp only [sims, rI, rN, h0]; rfl) (Wo_call hC._tithing_client_reader_fail.prim (by simp only [sims, rI, rN, h0]; try rfl) ((fail_run hC._tithing_client_reader_fail R2).mono ?_))) | refine W_ops (Wo_run (by simp only [sims, rI, rN, h0]; rfl) (Wo_call hC._tithing_client_reader_fail.prim (by simp only [sims, rI, rN, h0]; try rfl) ((fail_run hC._tithing_client_reader_fail R2).mono ?_)))
    rintro _ s3 ⟨rfl, R3, B3⟩
    refine Wo_nil ?_
    refine W_seq (W_region (by simp only [sims, rI, rN]; rfl) ?_)
    exact W_ret ⟨rfl, _, res_tmp res_nil, by simp only [sims, rI, rN, tupled]; try rfl, R3, B2.trans B3⟩
  · have d : decide (((n : Nat) : Int) < ((fxP l 1 x).1 : Nat)) = false := by simp; omega
    rw [if_neg hq]
    refine W_seq (W_seq (W_region (by simp only [sims, rI, rN, h1, d]; rfl) ?_))
    refine W_else (by simp only [sims, rI, rN]) (W_skip ?_)
    refine W_seq (W_region (by simp only [sims, rI, rN]; rfl) ?_)
    exact W_ret ⟨rfl, _, res_tmp res_nil, by simp only [sims, rI, rN, tupled]; try rfl, R2, B2⟩
theorem end_run (hC : Codes E) (hf : Has E f Code._tithing_client_reader_end) (R : Rd s hi a v l x) : Cv E f [ptr a 0] s fun r s' => r = .int .i64 (enP l x).2 ∧ Rd s' hi a v l (enP l x) ∧ But a s s' := by
  obtain ⟨p, c, rfl⟩ := R.slice
  refine Cv_of hf.code ?_
  have h0 : (Tr.ofList (.e : Fr) 0 [ptr a 0]).get 0 = some (ptr a 0) := rfl
  generalize (Tr.ofList (.e : Fr) 0 [ptr a 0]) = fr0 at h0
  unfold Code._tithing_client_reader_end
  have c0 : s.cell ⟨a, 0, none⟩ = some (.slice p l.length c) := R.row.cell 0
  have c1 : s.cell ⟨a, 1, none⟩ = some (.int .i64 (x.1 : Nat)) := R.row.cell 1
  have c2 : s.cell ⟨a, 2, none⟩ = some (.int .i64 x.2) := R.row.cell 2
  refine W_seq (W_region (by simp only [sims, rI, rN]; rfl) ?_)
  unfold enP
  by_cases hq : x.1 = l.length
  · have d : decide (((x.1 : Nat) : Int) = ((l.length : Nat) : Int)) = true := by simp; omega
    rw [if_pos hq]
    refine W_seq (W_seq (W_region (by simp only [sims, rI, rN, h0, c0, c1, nilOk_ptr, lenL_eq, Int.ofNat_eq_natCast, d]; rfl) ?_))
    refine W_else (by simp only [sims, rI, rN]) (W_skip ?_)
    refine W_seq (W_region (by simp only [sims, rI, rN, h0, c2, nilOk_ptr]; rfl) ?_)
    exact W_ret ⟨rfl, _, res_tmp res_nil, by simp only [sims, rI, rN, tupled]; try rfl, R, But.refl _ _⟩
  · have d : decide (((x.1 : Nat) : Int) = ((l.length : Nat) : Int)) = false := by simp; omega
    rw [if_neg hq]
    refine W_seq (W_seq (W_region (by simp only [sims, rI, rN, h0, c0, c1, nilOk_ptr, lenL_eq, Int.ofNat_eq_natCast, d]; rfl) ?_))
    refine W_then (by simp only [sims, rI, rN]) ?_
    first | refine W_opsM (Wo_run (by simp only [sims, rI, rN, h0]; rfl) (Wo_call hC._tithing_client_reader_fail.prim (by simp only [sims, rI, rN, h0]; try rfl) ((fail_run hC._tithing_client_reader_fail R).mono ?_))) | refine W_ops (Wo_run (by simp only [sims, rI, rN, h0]; rfl) (Wo_call hC._tithing_client_reader_fail.prim (by simp only [sims, rI, rN, h0]; try rfl) ((fail_run hC._tithing_client_reader_fail R).mono ?_)))
    rintro _ s3 ⟨rfl, R3, B3⟩
    refine Wo_nil ?_
    have b2 : s3.cell ⟨a, 2, none⟩ = some (.int .i64 (failP x).2) := R3.row.cell 2
    refine W_seq (W_region (by simp only [sims, rI, rN, h0, b2, nilOk_ptr]; rfl) ?_)
    exact W_ret ⟨rfl, _, res_tmp res_nil, by simp only [sims, rI, rN, tupled]; try rfl, R3, B3⟩
end
end
end Go.Ev
