/-
  A call out of its bytes, the program's side.
-/
import Derived.Test.YtmpckglmfklfiaaGreatDoorCdRead2
set_option linter.unusedVariables false
set_option linter.unusedSimpArgs false
namespace Go.Ev
open Int renaming reduceEq → rI
open Nat renaming reduceEqDiff → rN
noncomputable section
theorem and_bit (m i : Nat) (hi : i ≤ 8) (hm : m < 65536) : binOp .and (.int .i64 (m : Int)) (.int .i64 ((2 ^ i : Nat) : Int)) = some (.int .i64 ((m / 2 ^ i % 2 * 2 ^ i : Nat) : Int)) := by
  have hp : (2 : Nat) ^ i ≤ 2 ^ 8 := Nat.pow_le_pow_right (by omega) (by omega)
  rw [bin_int rfl]
  show some (Value.int .i64 (wr .i64 ((BitVec.ofInt 64 _ &&& BitVec.ofInt 64 _).toNat : Int))) = _
  have e : (BitVec.ofInt 64 (m : Int) &&& BitVec.ofInt 64 ((2 ^ i : Nat) : Int)).toNat = m / 2 ^ i % 2 * 2 ^ i := by
    rw [BitVec.toNat_and, ofInt_nat64 _ (by omega), ofInt_nat64 _ (by omega), and_two_pow]
  have hb : m / 2 ^ i % 2 * 2 ^ i ≤ 1 * 2 ^ i := Nat.mul_le_mul_right _ (by have := Nat.mod_lt (m / 2 ^ i) (show 2 > 0 by omega); omega)
  rw [e, wr_i64_nat (by omega)]
def bit (m i : Nat) : Bool := decide (m / 2 ^ i % 2 = 1)
theorem bit_ne (m i : Nat) : (!decide (((m / 2 ^ i % 2 * 2 ^ i : Nat) : Int) = 0)) = bit m i := by
  have hp : 0 < 2 ^ i := Nat.two_pow_pos i
  have h2 : m / 2 ^ i % 2 < 2 := Nat.mod_lt _ (by omega)
  unfold bit
  by_cases h : m / 2 ^ i % 2 = 1
  · rw [h, Nat.one_mul]
    have : ¬ (((2 ^ i : Nat) : Int) = 0) := by omega
    rw [decide_eq_false this]; rfl
  · have h0 : m / 2 ^ i % 2 = 0 := by omega
    rw [h0, Nat.zero_mul]; rfl
/- The parts of a call, one after the other. -/
def gc1 (l : List UInt8) := txP l (0, 0)
def gc2 (l : List UInt8) := nmP l (gc1 l).2
def gc3 (l : List UInt8) := nmP l (gc2 l).2
def gc4 (l : List UInt8) := nmP l (gc3 l).2
def gc5 (l : List UInt8) := nmP l (gc4 l).2
def gc6 (l : List UInt8) := nmP l (gc5 l).2
def gc7 (l : List UInt8) := txP l (gc6 l).2
def gc8 (l : List UInt8) := txP l (gc7 l).2
def gc9 (l : List UInt8) := msP l 15 (gc8 l).2
def gcx (l : List UInt8) : Nat × Int := (gc9 l).2
def gc10 (l : List UInt8) := lgP l 200 (rt6 l (gcx l)).2
def gcE (l : List UInt8) : Int := (enP l (gc10 l).2).2
def getC (l : List UInt8) : CallC :=
  ⟨(gc1 l).1, (gc2 l).1, (gc3 l).1, (gc7 l).1, (gc8 l).1, (gc4 l).1, (gc5 l).1, (gc6 l).1, bit (gc9 l).1 0, bit (gc9 l).1 1, bit (gc9 l).1 2, bit (gc9 l).1 3,
    ((rt1 l (gcx l)).1 : Nat), ((rt2 l (gcx l)).1 : Nat), ((rt3 l (gcx l)).1 : Nat), ((rt4 l (gcx l)).1 : Nat), ((rt5 l (gcx l)).1 : Nat), decide ((rt6 l (gcx l)).1 = 1)⟩
def callZ : CallC := ⟨[], 0, 0, [], [], 0, 0, 0, false, false, false, false, 0, 0, 0, 0, 0, false⟩
theorem splice_rights (d : List UInt8) (i j : Int) (n t : List UInt8) (r q m : Int) (b0 b1 b2 b3 : Bool) (o g fo fg fa : Int) (bl : Bool) (w : Value) :
    splice (CallC.cells ⟨d, i, j, n, t, r, q, m, b0, b1, b2, b3, 0, 0, 0, 0, 0, false⟩ w) 12 (rightsC o g fo fg fa bl) = CallC.cells ⟨d, i, j, n, t, r, q, m, b0, b1, b2, b3, o, g, fo, fg, fa, bl⟩ w := rfl
theorem splice_data (c : CallC) (w w' : Value) (h : vcells w' = [w']) : splice (c.cells w) 18 (vcells w') = c.cells w' := by rw [h]; rfl
section
variable {E : Env} {f : FuncId} {s t : St} {hi a : Nat} {v : Value} {l : List UInt8} {x : Nat × Int}
set_option maxHeartbeats 2000000 in
theorem GetCall_run (hC : Codes E) (hf : Has E f Code.client_GetCall) (hs : Sl s s.next 1 v (l.map ofByte)) (hl : l.length ≤ 65536) : Cv E f [v] s fun r s' => Low s.next s s' ∧
    ((gcE l ≠ 0 ∧ r = .tuple ⟨[.agg ⟨callZ.cells (.slice none 0 0)⟩, .int .i64 (gcE l)]⟩) ∨ (gcE l = 0 ∧ ∃ w, r = .tuple ⟨[.agg ⟨(getC l).cells w⟩, .int .i64 0]⟩ ∧ Gr s' s.next 1 w ((gc10 l).1.map ofByte))) := by
  obtain ⟨p, m, cc, rfl, hm⟩ := hs.parts
  rw [List.length_map, Nat.mul_one] at hm
  subst hm
  refine Cv_of hf.code ?_
  have h0 : (Tr.ofList (.e : Fr) 0 [.slice p l.length cc]).get 0 = some (.slice p l.length cc) := rfl
  generalize (Tr.ofList (.e : Fr) 0 [.slice p l.length cc]) = fr0 at h0
  unfold Code.client_GetCall
  refine W_seq (W_ops (Wo_alloc (lo := s.next) (s0 := s) ((Low.self s).skip 2) (Nat.le_add_right _ _) (by rw [next_skip]; omega) fun s1 B1 n1 _ => Wo_all (by simp only [sims, rI, rN]; rfl) ?_))
  rw [Nat.add_zero] at B1
  rw [next_skip] at n1
  refine W_seq (W_ops (Wo_run (l := [_, _]) (by simp only [sims, rI, rN, h0]; rfl) (Wo_box (lo := s.next) (s0 := s) (z := [.slice p l.length cc, .int .i64 0, .int .i64 0]) (by simp only [sims, rI, rN]; rfl) rfl rfl (B1.low.skip 4) (Nat.le_trans B1.low.le (Nat.le_add_right _ _)) (by rw [next_skip]; omega) fun s2 B2 n2 f2 => Wo_all (by simp only [sims, rI, rN]; rfl) ?_)))
  rw [next_skip] at n2
  have O2 : Row s2 s.next (callZ.cells (.slice none 0 0)) := by
    obtain ⟨es, e⟩ := B1.at_
    exact ⟨es, by rw [f2 _ (by omega), get_skip]; exact e⟩
  have R2 : Rd s2 s.next (s1.next + 2) (.slice p l.length cc) l (0, 0) := ⟨B2.at_, hs.low B2.low (Nat.le_refl _), by omega, by omega, Nat.zero_le _, hl⟩
  refine W_seq (W_opsM (Wo_run (by simp only [sims, rI, rN]; rfl) (Wo_call hC._tithing_client_reader_text.prim (args := [ptr (s1.next + 2) 0]) (by simp only [sims, rI, rN]) ((text_run hC hC._tithing_client_reader_text (R2.low ((Low.self s2).skip 5) R2.lt)).mono ?_))))
  rintro _ s3 ⟨rfl, R3, B3⟩
  have hn3 : s2.next + 5 ≤ s3.next := by have := B3.1; rw [next_skip] at this; exact this
  refine Wo_build (l := ({callZ with do_ := (gc1 l).1} : CallC).cells (.slice none 0 0)) (by simp only [sims, rI, rN]; rfl) ?_
  have K3 : But (s1.next + 2) s s3 := (B2.low.but _).trans ((((Low.self s2).skip 5).but _).trans B3)
  refine Wo_alloc (lo := s.next) (s0 := s) (K3.new (by omega)) (by omega) (by omega) fun s4 B4 n4 f4 => ?_
  have K4 : But (s2.next + 3) s3 s4 := ⟨Nat.le_of_eq n4.symm, fun b _ hb => f4 b hb⟩
  obtain ⟨s5, p5, R5, n5, f5⟩ := Row.put B4.at_ (o := 0) (vs := ({callZ with do_ := (gc1 l).1} : CallC).cells (.slice none 0 0)) (Nat.le_refl _)
  have K5 := but_put n5 f5
  have hl19 : Nat.beq (lenL (({callZ with do_ := (gc1 l).1} : CallC).cells (.slice none 0 0))) 19 = true := rfl
  refine Wo_all (by simp only [sims, rI, rN, hl19, p5]; rfl) ?_
  refine W_gen (T := [(4, ptr (s1.next + 2) 0), (5, ptr (s2.next + 3) 0), (2, ptr s.next 0)]) (all_cons (by simp only [sims, rI, rN]) (all_cons (by simp only [sims, rI, rN]) (all_cons (by simp only [sims, rI, rN]) all_nil))) fun fr5 h5 => ?_
  have G0 : Gt s 4 5 2 s.next (s1.next + 2) (s2.next + 3) s.next (.slice p l.length cc) l (callZ.cells (.slice none 0 0)) fr5 s5 (gc1 l).2 (({callZ with do_ := (gc1 l).1} : CallC).cells (.slice none 0 0)) :=
    { r := h5 _ (.head _), b := h5 _ (.tail _ (.head _)), o := h5 _ (.tail _ (.tail _ (.head _))), rd := (R3.but K4 (by omega) (by omega)).but K5 (by omega) (by omega), box := R5, out := ((((O2.skip 5).but B3 (by rw [next_skip]; omega) (by omega)).but K4 (by omega) (by omega)).but K5 (by omega) (by omega)),
      ac := by omega, ad := by omega, cd := by omega, hc := by omega, hd := by omega, mc := by omega, mh := by omega, keep := (K3.over K4 (by omega)).over K5 (by omega) }
  clear h5
  refine W_seq (G0.num hC hC._tithing_client_reader_number (le_by rfl) (by decide) fun _ _ _ G => ?_)
  refine W_seq (G.num hC hC._tithing_client_reader_number (le_by rfl) (by decide) fun _ _ _ G => ?_)
  refine W_seq (G.num hC hC._tithing_client_reader_number (le_by rfl) (by decide) fun _ _ _ G => ?_)
  refine W_seq (G.num hC hC._tithing_client_reader_number (le_by rfl) (by decide) fun _ _ _ G => ?_)
  refine W_seq (G.num hC hC._tithing_client_reader_number (le_by rfl) (by decide) fun _ _ _ G => ?_)
  refine W_seq (G.txt hC hC._tithing_client_reader_text (le_by rfl) (by decide) fun _ _ _ G => ?_)
  refine W_seq (G.txt hC hC._tithing_client_reader_text (le_by rfl) (by decide) fun fr6 s6 _ G6 => ?_)
  have G6 : Gt s 4 5 2 s.next (s1.next + 2) (s2.next + 3) s.next (.slice p l.length cc) l (callZ.cells (.slice none 0 0)) fr6 s6 (gc8 l).2
    (CallC.cells ⟨(gc1 l).1, (gc2 l).1, (gc3 l).1, (gc7 l).1, (gc8 l).1, (gc4 l).1, (gc5 l).1, (gc6 l).1, false, false, false, false, 0, 0, 0, 0, 0, false⟩ (.slice none 0 0)) := G6
  clear G0
  have k4 := G6.r
  have k5 := G6.b
  have k2 := G6.o
  first | refine W_seq (W_opsM (Wo_run (by simp only [sims, rI, rN, k4]; rfl) (Wo_call hC._tithing_client_reader_most.prim (by simp only [sims, rI, rN, k4]; try rfl) ((most_run hC hC._tithing_client_reader_most G6.rd (n := 15) (by decide)).mono ?_)))) | refine W_seq (W_ops (Wo_run (by simp only [sims, rI, rN, k4]; rfl) (Wo_call hC._tithing_client_reader_most.prim (by simp only [sims, rI, rN, k4]; try rfl) ((most_run hC hC._tithing_client_reader_most G6.rd (n := 15) (by decide)).mono ?_))))
  rintro _ s7 ⟨rfl, R7, B7⟩
  have G7 := G6.go R7 B7
  refine Wo_all (by simp only [sims, rI, rN]; rfl) ?_
  have hm := fxP_lt l 1 (gc8 l).2
  have a0 : binOp .and (.int .i64 ((msP l 15 (gc8 l).2).1 : Nat)) (.int .i64 1) = some (.int .i64 (((gc9 l).1 / 2 ^ 0 % 2 * 2 ^ 0 : Nat) : Int)) := and_bit (gc9 l).1 0 (by decide) (Nat.lt_of_lt_of_le hm (by decide))
  have a1 : binOp .and (.int .i64 ((msP l 15 (gc8 l).2).1 : Nat)) (.int .i64 2) = some (.int .i64 (((gc9 l).1 / 2 ^ 1 % 2 * 2 ^ 1 : Nat) : Int)) := and_bit (gc9 l).1 1 (by decide) (Nat.lt_of_lt_of_le hm (by decide))
  have a2 : binOp .and (.int .i64 ((msP l 15 (gc8 l).2).1 : Nat)) (.int .i64 4) = some (.int .i64 (((gc9 l).1 / 2 ^ 2 % 2 * 2 ^ 2 : Nat) : Int)) := and_bit (gc9 l).1 2 (by decide) (Nat.lt_of_lt_of_le hm (by decide))
  have a3 : binOp .and (.int .i64 ((msP l 15 (gc8 l).2).1 : Nat)) (.int .i64 8) = some (.int .i64 (((gc9 l).1 / 2 ^ 3 % 2 * 2 ^ 3 : Nat) : Int)) := and_bit (gc9 l).1 3 (by decide) (Nat.lt_of_lt_of_le hm (by decide))
  have hfil4 : ∀ b0 b1 b2 b3 : Bool, fillL [(0, 1, .bool b0), (1, 1, .bool b1), (2, 1, .bool b2), (3, 1, .bool b3)] [.bool false, .bool false, .bool false, .bool false] = some [.bool b0, .bool b1, .bool b2, .bool b3] := fun _ _ _ _ => rfl
  have hl4 : ∀ b0 b1 b2 b3 : Value, Nat.beq (lenL [b0, b1, b2, b3]) 4 = true := fun _ _ _ _ => rfl
  obtain ⟨s8, p8, G8, -⟩ := G7.put (i := 8) (vs := [.bool (bit (gc9 l).1 0), .bool (bit (gc9 l).1 1), .bool (bit (gc9 l).1 2), .bool (bit (gc9 l).1 3)]) (le_by rfl)
  refine W_seq (W_region (by simp only [sims, rI, rN, k5, a0, a1, a2, a3, bit_ne, hfil4, hl4, p8]; rfl) ?_)
  refine W_gen (T := [(4, ptr (s1.next + 2) 0), (5, ptr (s2.next + 3) 0), (2, ptr s.next 0)]) (all_cons (by simp only [sims, rI, rN, k4]) (all_cons (by simp only [sims, rI, rN, k5]) (all_cons (by simp only [sims, rI, rN, k2]) all_nil))) fun fr8 h8 => ?_
  have G8 : Gt s 4 5 2 s.next (s1.next + 2) (s2.next + 3) s.next (.slice p l.length cc) l (callZ.cells (.slice none 0 0)) fr8 s8 (gcx l)
    (CallC.cells ⟨(gc1 l).1, (gc2 l).1, (gc3 l).1, (gc7 l).1, (gc8 l).1, (gc4 l).1, (gc5 l).1, (gc6 l).1, bit (gc9 l).1 0, bit (gc9 l).1 1, bit (gc9 l).1 2, bit (gc9 l).1 3, 0, 0, 0, 0, 0, false⟩ (.slice none 0 0)) :=
    { G8 with r := h8 _ (.head _), b := h8 _ (.tail _ (.head _)), o := h8 _ (.tail _ (.tail _ (.head _))) }
  clear h8 G7 G6
  refine W_seq (G8.field (ws := []) (P := fun r _ => r = .agg ⟨rtV l (gcx l)⟩) hC._tithing_client_reader_rights.prim (fun _ => rfl) (rights_r_run hC hC._tithing_client_reader_rights G8.rd (Nat.le_trans G8.rd.ge (Nat.le_of_lt G8.rd.lt))) (by rintro _ _ rfl; exact ⟨rfl, rfl⟩) (le_by rfl) (by decide) ?_)
  rintro _ fr9 s8' s9 rfl _ _ G9
  rw [vcells_agg, show splice _ 12 (rtV l (gcx l)) = (getC l).cells (.slice none 0 0) from splice_rights _ _ _ _ _ _ _ _ _ _ _ _ _ _ _ _ _ _ _] at G9
  refine W_seq (G9.field (ws := [.int .i64 (200 : Nat)]) (P := fun r s' => Gr s' s9.next 1 r ((gc10 l).1.map ofByte)) hC._tithing_client_reader_long.prim (fun _ => rfl) ((long_r_run hC hC._tithing_client_reader_long G9.rd (n := 200) (by decide)).mono fun r s' h => ⟨h.2.2, h.1, h.2.1⟩) (by rintro r s' h; obtain ⟨_, _, _, rfl, _⟩ := h.sl.parts; exact ⟨rfl, rfl⟩) (le_by rfl) (by decide) ?_)
  rintro w fr10 s9' s10 gw Bw _ G10
  have gw := gw.but Bw G9.hc
  have G10 : Gt s 4 5 2 s.next (s1.next + 2) (s2.next + 3) s.next (.slice p l.length cc) l (callZ.cells (.slice none 0 0)) fr10 s10 (gc10 l).2 ((getC l).cells w) := by
    have hw : vcells w = [w] := by obtain ⟨_, _, _, rfl, _⟩ := gw.sl.parts; rfl
    rw [splice_data _ _ _ hw] at G10
    exact G10
  have q4 := G10.r
  have q5 := G10.b
  have q2 := G10.o
  first | refine W_seq (W_seq (W_opsM (Wo_run (by simp only [sims, rI, rN, q4]; rfl) (Wo_call hC._tithing_client_reader_end.prim (by simp only [sims, rI, rN, q4]; try rfl) ((end_run hC hC._tithing_client_reader_end G10.rd).mono ?_))))) | refine W_seq (W_seq (W_ops (Wo_run (by simp only [sims, rI, rN, q4]; rfl) (Wo_call hC._tithing_client_reader_end.prim (by simp only [sims, rI, rN, q4]; try rfl) ((end_run hC hC._tithing_client_reader_end G10.rd).mono ?_)))))
  rintro _ s11 ⟨rfl, R11, B11⟩
  have G11 := G10.go R11 B11
  have gw := gw.but B11 G9.rd.lt
  refine Wo_all (by simp only [sims, rI, rN]; rfl) ?_
  have hE : (enP l (gc10 l).2).2 = gcE l := rfl
  rw [hE]
  by_cases he : gcE l = 0
  · refine W_seq (W_region (by simp only [sims, rI, rN, he]; rfl) ?_)
    refine W_else (by simp only [sims, rI, rN]) (W_skip ?_)
    have rw11 : s11.row ⟨s2.next + 3, 0, none⟩ 19 = some ((getC l).cells w) := G11.box.row rfl
    obtain ⟨u, pu, U, nu, fu⟩ := G11.out.put (o := 0) (vs := (getC l).cells w) (Nat.le_refl _)
    have U : Row u s.next ((getC l).cells w) := U
    have BU := but_put nu fu
    have hl19' : Nat.beq (lenL ((getC l).cells w)) 19 = true := rfl
    refine W_seq (W_region (by simp only [sims, rI, rN, q2, q5, rw11, hl19', pu]; rfl) ?_)
    refine W_ret ⟨rfl, _, res_cell (by simp only [sims, rI, rN, q2]) (U.row rfl) (res_tmp res_nil), (G11.keep.over BU (Nat.le_refl _)).new (by omega), .inr ⟨he, w, ?_, (gw.but BU G9.hd).weak G9.keep.1⟩⟩
    show tupled [_, orUndef (Tr.get _ 3)] = _
    rw [Tr.get_set_same]; rfl
  · have d : decide (gcE l = 0) = false := decide_eq_false he
    refine W_seq (W_region (by simp only [sims, rI, rN, d]; rfl) ?_)
    refine W_then (by simp only [sims, rI, rN]) ?_
    obtain ⟨u, pu, U, nu, fu⟩ := G11.out.put (o := 0) (vs := callZ.cells (.slice none 0 0)) (Nat.le_refl _)
    have U : Row u s.next (callZ.cells (.slice none 0 0)) := U
    have BU := but_put nu fu
    have hl19' : Nat.beq (lenL (callZ.cells (.slice none 0 0))) 19 = true := rfl
    refine W_seq (W_ops (Wo_build (l := callZ.cells (.slice none 0 0)) rfl (Wo_all (by simp only [sims, rI, rN, q2, hl19', pu]; rfl) ?_)))
    refine W_ret ⟨rfl, _, res_cell (by simp only [sims, rI, rN, q2]) (U.row rfl) (res_tmp res_nil), (G11.keep.over BU (Nat.le_refl _)).new (by omega), .inl ⟨he, ?_⟩⟩
    show tupled [_, orUndef (Tr.get _ 3)] = _
    rw [Tr.get_set_same]; rfl
end
end
end Go.Ev
