/-
  The bytes of a call, the program's side.
-/
import Derived.Test.YtmpckglmfklfiaaGreatDoorCdSmall
import Derived.Test.YtmpckglmfklfiaaGreatDoorEvPart3
set_option linter.unusedVariables false
set_option linter.unusedSimpArgs false
namespace Go.Ev
open Int renaming reduceEq → rI
open Nat renaming reduceEqDiff → rN
noncomputable section
structure CallC where
  do_ : List UInt8
  dir : Int
  file : Int
  name : List UInt8
  to : List UInt8
  ref : Int
  from_ : Int
  many : Int
  b0 : Bool
  b1 : Bool
  b2 : Bool
  b3 : Bool
  o : Int
  g : Int
  fo : Int
  fg : Int
  fa : Int
  bl : Bool
def CallC.cells (c : CallC) (d : Value) : List Value :=
  [strOf c.do_, .int .i64 c.dir, .int .i64 c.file, strOf c.name, strOf c.to, .int .i64 c.ref, .int .i64 c.from_, .int .i64 c.many, .bool c.b0, .bool c.b1, .bool c.b2, .bool c.b3, .int .i64 c.o, .int .i64 c.g, .int .i64 c.fo, .int .i64 c.fg, .int .i64 c.fa, .bool c.bl, d]
def CallC.numbers (c : CallC) : List Int := [c.dir, c.file, c.ref, c.from_, c.many]
def CallC.modes (c : CallC) : List Bool := [c.b0, c.b1, c.b2, c.b3]
def modeN : List Bool → Nat
  | [] => 0
  | b :: l => (if b then 1 else 0) + 2 * modeN l
theorem modeN_lt : ∀ l : List Bool, modeN l < 2 ^ l.length
  | [] => by decide
  | b :: l => by
    have := modeN_lt l
    show (if b then 1 else 0) + 2 * modeN l < 2 ^ (l.length + 1)
    rw [Nat.pow_succ]
    split <;> omega
theorem modeN_snoc : ∀ (l : List Bool) (b : Bool), modeN (l ++ [b]) = modeN l + (if b then 2 ^ l.length else 0)
  | [], b => by cases b <;> rfl
  | a :: l, b => by
    show (if a then 1 else 0) + 2 * modeN (l ++ [b]) = ((if a then 1 else 0) + 2 * modeN l) + (if b then 2 ^ (l.length + 1) else 0)
    rw [modeN_snoc l b, Nat.pow_succ]
    split <;> split <;> omega
def numB (n : Int) : List UInt8 := beB 4 (n + 2147483648).toNat
def CallC.bytes (c : CallC) (l : List UInt8) : List UInt8 :=
  countB c.do_ ++ (c.numbers.map numB).flatten ++ (countB c.name ++ (countB c.to ++ ([UInt8.ofNat (modeN c.modes)] ++ (bytesR c.o c.g c.fo c.fg c.fa c.bl ++ (beB 2 l.length ++ l)))))
def CallC.bad (c : CallC) (l : List UInt8) : Bool := (c.numbers.any fun n => !numberOk n) || decide ((31 : Int) < (c.do_.length : Nat)) || decide ((31 : Int) < (c.name.length : Nat)) || decide ((31 : Int) < (c.to.length : Nat)) || decide ((200 : Int) < (l.length : Nat))
def CallC.ok (c : CallC) (l : List UInt8) : Prop := okR c.o c.g c.fo c.fg c.fa ∧ c.bad l = false
instance (c : CallC) (l : List UInt8) : Decidable (c.ok l) := by unfold CallC.ok; infer_instance
section
variable {E : Env} {f : FuncId} {s : St}
theorem modeByte_run (hf : Has E f Code.client_modeByte) (b0 b1 b2 b3 : Bool) : Cv E f [.agg ⟨[.bool b0, .bool b1, .bool b2, .bool b3]⟩] s fun v s' => v = .int .u8 ((modeN [b0, b1, b2, b3] : Nat) : Int) ∧ Low s.next s s' := by
  refine Cv_of hf.code ?_
  have h0 : (Tr.ofList (.e : Fr) 0 [.agg ⟨[.bool b0, .bool b1, .bool b2, .bool b3]⟩]).get 0 = some (.agg ⟨[.bool b0, .bool b1, .bool b2, .bool b3]⟩) := rfl
  generalize (Tr.ofList (.e : Fr) 0 [.agg ⟨[.bool b0, .bool b1, .bool b2, .bool b3]⟩]) = fr0 at h0
  unfold Code.client_modeByte
  refine W_seq (W_ops (Wo_box (lo := s.next) (s0 := s) (by simp only [sims, rI, rN, h0]; rfl) rfl rfl ((Low.self s).skip 2) (Nat.le_add_right _ _) (by rw [next_skip]; omega) fun s1 B1 _ _ => Wo_all (by simp only [sims, rI, rN]; rfl) ?_))
  rw [Nat.add_zero] at B1
  have c0 : s1.cell ⟨s.next, 0, none⟩ = some (.bool b0) := B1.cell
  have c1 : s1.cell ⟨s.next, 1, none⟩ = some (.bool b1) := B1.cell
  have c2 : s1.cell ⟨s.next, 2, none⟩ = some (.bool b2) := B1.cell
  have c3 : s1.cell ⟨s.next, 3, none⟩ = some (.bool b3) := B1.cell
  refine W_seq (W_region (by simp only [sims, rI, rN]; rfl) ?_)
  refine W_seq (W_seq (W_ops (Wo_run (l := [_, _, _, _, _, _, _, _]) (by simp only [sims, rI, rN, c0, c1, c2, c3]; rfl) ?_)))
  refine Wo_buildSlice (size := 1) (lo := s1.next) (cs := [.bool b0, .bool b1, .bool b2, .bool b3]) (by simp only [sims, rI, rN]; rfl) rfl (Nat.le_add_right _ _) (by rw [next_skip]; omega) (by decide) ?_
  rintro s2 ⟨g1, -⟩ g2 -
  have L2 : Low s.next s s2 := B1.low.trans (((Low.self s1).skip 11).trans g2 |>.weak B1.low.2.1)
  refine Wo_all (by simp only [sims, rI, rN]; rfl) ?_
  refine W_block ?_
  unfold Code.client_modeByte_l0
  generalize hq : s1.next + 8 = q at g1
  refine W_for (n := 4) (fun i fr t => t = s2 ∧ fr.get 14 = some (.slice (some ⟨q, 0, none⟩) 4 4) ∧ fr.get 3 = some (.int .u8 ((modeN ([b0, b1, b2, b3].take i) : Nat) : Int))) (by omega) (by decide) ?_ ?_ ?_ 0 (Nat.zero_le _) ⟨rfl, by simp only [sims, rI, rN], by simp only [sims, rI, rN]; rfl⟩ (by simp only [sims, rI, rN]; rfl) (by simp only [sims, rI, rN]; rfl)
  · rintro i fr t x v hx ⟨e0, e1, e2⟩
    refine ⟨e0, ?_, ?_⟩ <;> rcases hx with rfl | rfl | rfl <;> simp only [sims, rI, rN, e1, e2]
  · rintro i fr t hlt ⟨rfl, e1, e2⟩ h16 h15
    obtain ⟨a, ha, hcell⟩ := g1.cell (i := i) (by exact hlt)
    cases ha
    obtain ⟨b, hb⟩ : ∃ b, [b0, b1, b2, b3][i]? = some b := ⟨_, List.getElem?_eq_getElem (by exact hlt)⟩
    have hc2 : [Value.bool b0, .bool b1, .bool b2, .bool b3][i]? = some (.bool b) := by
      have : [Value.bool b0, .bool b1, .bool b2, .bool b3] = [b0, b1, b2, b3].map .bool := rfl
      rw [this, List.getElem?_map, hb]; rfl
    rw [hc2] at hcell
    have hbl : Nat.blt i 4 = true := by rw [Nat.blt_eq]; exact hlt
    have hm : modeN ([b0, b1, b2, b3].take (i + 1)) = modeN ([b0, b1, b2, b3].take i) + (if b then 2 ^ i else 0) := by
      have hlen : ([b0, b1, b2, b3].take i).length = i := by rw [List.length_take]; show min i 4 = i; omega
      have : [b0, b1, b2, b3].take (i + 1) = [b0, b1, b2, b3].take i ++ [b] := by
        rw [List.take_add_one, hb]; rfl
      rw [this, modeN_snoc, hlen]
    have hml : modeN ([b0, b1, b2, b3].take i) < 2 ^ i := by
      have := modeN_lt ([b0, b1, b2, b3].take i)
      have hlen : ([b0, b1, b2, b3].take i).length = i := by rw [List.length_take]; show min i 4 = i; omega
      rw [hlen] at this; exact this
    have e3 : binOp .shl (.int .u8 1) (.int .i64 (i : Nat)) = some (.int .u8 ((2 ^ i : Nat) : Int)) := by
      have h := shl_nat .u8 .i64 1 i (by show i ≤ 8; omega)
      have hp : (2 : Nat) ^ i ≤ 2 ^ 3 := Nat.pow_le_pow_right (by omega) (by omega)
      rw [Nat.one_mul, wr_u8_nat, Nat.mod_eq_of_lt (by omega)] at h
      exact h
    have e4 := or_u8 (modeN ([b0, b1, b2, b3].take i)) i (by omega) hml
    rw [add_eq, Nat.zero_add] at hcell
    refine W_seq (W_region (by simp only [sims, rI, rN, e1, h16, hbl, hcell]; rfl) (W_seq (W_region (by simp only [sims, rI, rN]; rfl) ?_)))
    refine W_ifb (q := b) (by simp only [sims, rI, rN]) (fun h => ?_) (fun h => W_skip ?_)
    · refine W_region (by simp only [sims, rI, rN, e2, e3, e4]; rfl) ⟨⟨rfl, by simp only [sims, rI, rN, e1], ?_⟩, by simp only [sims, rI, rN, h16], by simp only [sims, rI, rN, h15]⟩
      rw [hm, if_pos h]
      simp only [sims, rI, rN]
    · refine ⟨⟨rfl, by simp only [sims, rI, rN, e1], ?_⟩, by simp only [sims, rI, rN, h16], by simp only [sims, rI, rN, h15]⟩
      rw [hm, if_neg (by rw [h]; exact Bool.false_ne_true)]
      simp only [sims, rI, rN, e2]
  · rintro fr t ⟨rfl, e1, e2⟩
    show W E _ _ _ _
    refine W_seq (W_region (by simp only [sims, rI, rN, e2]; rfl) (W_ret ⟨rfl, _, res_tmp res_nil, ?_, L2⟩))
    simp only [sims, rI, rN, tupled]
    rfl
set_option maxHeartbeats 2000000 in
theorem PutCall_run (hC : Codes E) (hf : Has E f Code.client_PutCall) {c : CallC} {hi n k : Nat} {p : Option Addr} {l : List UInt8} (hhi : hi ≤ s.next) (hd : Sl s hi 1 (.slice p n k) (l.map ofByte)) (hroom : c.do_.length ≤ room ∧ c.name.length ≤ room ∧ c.to.length ≤ room) :
    Cv E f [.agg ⟨c.cells (.slice p n k)⟩] s fun r s' => (c.ok l ∧ ∃ x, r = .tuple ⟨[x, .int .i64 0]⟩ ∧ Gr s' s.next 1 x ((c.bytes l).map ofByte) ∧ Low s.next s s') ∨ (¬ c.ok l ∧ r = .tuple ⟨[.slice none 0 0, .int .i64 2]⟩ ∧ Low s.next s s') := by
  have hnl : n = l.length := by
    obtain ⟨p', n', c', e, h⟩ := hd.parts
    cases e
    rw [List.length_map, Nat.mul_one] at h
    exact h.symm
  refine Cv_of hf.code ?_
  have h0 : (Tr.ofList (.e : Fr) 0 [.agg ⟨c.cells (.slice p n k)⟩]).get 0 = some (.agg ⟨c.cells (.slice p n k)⟩) := rfl
  generalize (Tr.ofList (.e : Fr) 0 [.agg ⟨c.cells (.slice p n k)⟩]) = fr0 at h0
  unfold Code.client_PutCall
  have nth0 : ∀ (x y : Value), nthL [x, y] 0 = some x := fun _ _ => rfl
  have nth1 : ∀ (x y : Value), nthL [x, y] 1 = some y := fun _ _ => rfl
  refine W_seq (W_ops (Wo_box (lo := s.next) (s0 := s) (by simp only [sims, rI, rN, h0]; rfl) rfl rfl ((Low.self s).skip 3) (Nat.le_add_right _ _) (by rw [next_skip]; omega) fun s1 B1 hn1 _ => Wo_all (by simp only [sims, rI, rN]; rfl) ?_))
  have B1 : Boxed s.next s s1 s.next (c.cells (.slice p n k)) := B1
  have cell : ∀ {t : St} {i : Nat} {v : Value}, Boxed s.next s t s.next (c.cells (.slice p n k)) → (c.cells (.slice p n k))[i]? = some v → t.cell ⟨s.next, i, none⟩ = some v := fun h e => h.cell.trans e
  have rrow : ∀ {t : St}, Boxed s.next s t s.next (c.cells (.slice p n k)) → t.row ⟨s.next, 12, none⟩ 6 = some (rightsC c.o c.g c.fo c.fg c.fa c.bl) := fun h => h.part (by show 12 + 6 ≤ 19; decide)
  have mrow : ∀ {t : St}, Boxed s.next s t s.next (c.cells (.slice p n k)) → t.row ⟨s.next, 8, none⟩ 4 = some [.bool c.b0, .bool c.b1, .bool c.b2, .bool c.b3] := fun h => h.part (by show 8 + 4 ≤ 19; decide)
  have c1 := cell (i := 1) B1 rfl
  have c2 := cell (i := 2) B1 rfl
  have c5 := cell (i := 5) B1 rfl
  have c6 := cell (i := 6) B1 rfl
  have c7 := cell (i := 7) B1 rfl
  refine W_seq (W_ops (Wo_run (l := [_, _, _, _, _, _, _, _, _, _]) (by simp only [sims, rI, rN, c1, c2, c5, c6, c7]; rfl) ?_))
  refine Wo_buildSlice (size := 1) (lo := s1.next) (cs := c.numbers.map fun n => .int .i64 n) (by simp only [sims, rI, rN]; rfl) rfl (Nat.le_add_right _ _) (by rw [next_skip]; omega) (by decide) ?_
  rintro s2 ⟨N2, -⟩ g2 hs2
  have l12 : Low s1.next s1 s2 := ((Low.self s1).skip 12).trans g2
  have hn2 : s2.next = s1.next + 12 := by rw [hs2, St.next_set, next_skip]
  have B2 := B1.go l12
  refine Wo_all (by simp only [sims, rI, rN]; rfl) ?_
  generalize hq : s1.next + 10 = q at N2
  have N2 : Sl s2 s2.next 1 _ _ := N2.wide (by omega)
  refine W_seq (W_opsM (Wo_run (by simp only [sims, rI, rN, rrow B2]; rfl) (Wo_call hC.server_PutRights.prim (args := [.agg ⟨rightsC c.o c.g c.fo c.fg c.fa c.bl⟩]) (by simp only [sims, rI, rN]) ((PutRights_run hC hC.server_PutRights).mono ?_))))
  intro r1 s3 hr1
  obtain ⟨x1, e1, rfl, hx1, l23⟩ : ∃ (x1 : Value) (e1 : Int), r1 = .tuple ⟨[x1, .int .i64 e1]⟩ ∧ ((e1 = 0 ∧ okR c.o c.g c.fo c.fg c.fa ∧ Gr s3 s2.next 1 x1 ((bytesR c.o c.g c.fo c.fg c.fa c.bl).map ofByte)) ∨ (e1 = 2 ∧ ¬ okR c.o c.g c.fo c.fg c.fa)) ∧ Low s2.next s2 s3 := by
    rcases hr1 with ⟨k1, x, rfl, k3, k4⟩ | ⟨k1, rfl, k4⟩
    · exact ⟨x, 0, rfl, .inl ⟨rfl, k1, k3⟩, k4⟩
    · exact ⟨_, 2, rfl, .inr ⟨rfl, k1⟩, k4⟩
  refine Wo_all (by simp only [sims, rI, rN, nth0, nth1]; rfl) ?_
  have B3 := B2.go l23
  have N3 := N2.low l23 (Nat.le_refl _)
  refine W_seq (W_seq (W.cut (P := fun e fr' s' => e = .normal ∧ s' = s3 ∧ fr'.get 56 = some (.bool (!decide (c.ok l)))) ?_ rfl ?_))
  · have d0 := cell (i := 0) B3 rfl
    have d3 := cell (i := 3) B3 rfl
    have d4 := cell (i := 4) B3 rfl
    have d18 := cell (i := 18) B3 rfl
    rcases hx1 with ⟨rfl, hok, hg1⟩ | ⟨rfl, hno⟩
    · refine W_opsM (Wo_run (by simp only [sims, rI, rN]; rfl) (Wo_gt (by simp only [sims, rI, rN]) (Wo_call hC.slices_ContainsFunc_int_int.prim (by simp only [sims, rI, rN]; try rfl) ((ContainsFunc_run hC hC.slices_ContainsFunc_int_int N3 (by show 5 ≤ _; decide) hC.client_PutCall_1.prim (fun n => PutCall1_run hC hC.client_PutCall_1 n)).mono ?_))))
      rintro _ _ ⟨hs4, rfl⟩
      rw [hs4]; clear hs4
      have hfin : decide (c.ok l) = !c.bad l := by
        cases hb : c.bad l with
        | false => exact decide_eq_true ⟨hok, hb⟩
        | true => exact decide_eq_false fun h => by have := h.2; rw [hb] at this; cases this
      rw [hfin, Bool.not_not]
      unfold CallC.bad
      refine Wo_gen (T := [(29, .bool false), (31, .bool (c.numbers.any fun n => !numberOk n)), (1, ptr s.next 0)]) (all_cons (by simp only [sims, rI, rN]) (all_cons (by simp only [sims, rI, rN]) (all_cons (by simp only [sims, rI, rN]) all_nil))) fun fr6 h6 => ?_
      have h29 := h6 _ (.head _)
      have h31 := h6 _ (.tail _ (.head _))
      have h1 := h6 _ (.tail _ (.tail _ (.head _)))
      simp only [sims, rI, rN] at h29 h31 h1
      clear h6
      generalize (c.numbers.any fun n => !numberOk n) = q0 at h31
      cases q0 <;> cases q1 : decide ((31 : Int) < (c.do_.length : Nat)) <;> cases q2 : decide ((31 : Int) < (c.name.length : Nat)) <;> cases q3 : decide ((31 : Int) < (c.to.length : Nat)) <;> cases q4 : decide ((200 : Int) < (l.length : Nat)) <;>
        exact Wo_all (by simp only [sims, rI, rN, h29, h31, h1, d0, d3, d4, d18, lenL_eq, hnl, Int.ofNat_eq_natCast, q1, q2, q3, q4]; rfl) ⟨rfl, rfl, by simp only [sims, rI, rN]; rfl⟩
    · have hfin : decide (c.ok l) = false := by
        rw [decide_eq_false_iff_not]; exact fun h => hno h.1
      rw [hfin]
      exact W_opsM (Wo_run (by simp only [sims, rI, rN]; rfl) (Wo_gf (by simp only [sims, rI, rN]) (Wo_all (by simp only [sims, rI, rN]; rfl) ⟨rfl, rfl, by simp only [sims, rI, rN]⟩)))
  rintro e fr4 s4 ⟨rfl, rfl, h56⟩ hk
  have k1 := hk 1 (by decide)
  have k4 := hk 4 (by decide)
  have k5 := hk 5 (by decide)
  simp only [sims, rI, rN] at k1 k4 k5
  clear hk
  show W E _ fr4 s4 _
  by_cases hok : c.ok l
  case neg =>
    refine W_then (by simp only [sims, rI, rN, h56]; rw [decide_eq_false hok]; rfl) ?_
    exact W_seq (W_region (by simp only [sims, rI, rN]; rfl) (W_ret ⟨rfl, _, res_tmp (res_tmp res_nil), .inr ⟨hok, by simp only [sims, rI, rN, tupled], B3.low⟩⟩))
  refine W_else (by simp only [sims, rI, rN, h56]; rw [decide_eq_true hok]; rfl) (W_skip ?_)
  rcases hx1 with ⟨rfl, hokr, hg1⟩ | ⟨rfl, hno⟩
  case inr => exact absurd hok.1 hno
  obtain ⟨hb1, hb2, hb3, hb4, hb5⟩ : (c.numbers.any fun n => !numberOk n) = false ∧ c.do_.length ≤ 31 ∧ c.name.length ≤ 31 ∧ c.to.length ≤ 31 ∧ l.length ≤ 200 := by
    have h := hok.2
    unfold CallC.bad at h
    simp only [Bool.or_eq_false_iff, decide_eq_false_iff_not] at h
    refine ⟨h.1.1.1.1, ?_, ?_, ?_, ?_⟩ <;> omega
  have R4 : Sl s4 s4.next 1 _ _ := hg1.sl
  refine W_seq (W_opsM (Wo_run (by simp only [sims, rI, rN, k1, cell (i := 0) B3 rfl]; rfl) (Wo_call hC.client_counted.prim (by simp only [sims, rI, rN]; try rfl) ((counted_run hC hC.client_counted hb2).mono ?_))))
  rintro out s5 ⟨g5, l45⟩
  refine Wo_all (by simp only [sims, rI, rN]; rfl) ?_
  have B5 := B3.go l45
  have R5 := R4.low l45 (Nat.le_refl _)
  have N5 := N3.low l45 (Nat.le_trans l23.2.1 (Nat.le_refl _))
  refine W_seq (W_seq (W_region (by simp only [sims, rI, rN, k4]; rfl) ?_))
  refine W_block ?_
  unfold Code.client_PutCall_l0
  have hlen5 : c.numbers.length = 5 := rfl
  have hno : ∀ i (h : i < c.numbers.length), -2147483648 ≤ c.numbers[i] ∧ c.numbers[i] < 2147483648 := by
    intro i h
    rw [List.any_eq_false] at hb1
    have := hb1 _ (List.getElem_mem h)
    simpa [numberOk] using this
  have hle4 : s.next ≤ s4.next := B3.low.2.1
  refine W_for (n := 5) (fun i fr t => Low s4.next s4 t ∧ fr.get 1 = some (ptr s.next 0) ∧ fr.get 5 = some x1 ∧ fr.get 60 = some (.slice (some ⟨q, 0, none⟩) 5 5) ∧ ∃ y, fr.get 7 = some y ∧ Gr t s4.next 1 y ((countB c.do_ ++ ((c.numbers.take i).map numB).flatten).map ofByte)) (by omega) (by decide) ?_ ?_ ?_ 0 (Nat.zero_le _)
    ⟨l45, by simp only [sims, rI, rN, k1], by simp only [sims, rI, rN, k5], by simp only [sims, rI, rN], out, by simp only [sims, rI, rN], by simpa using g5⟩ (by simp only [sims, rI, rN]; rfl) (by simp only [sims, rI, rN]; rfl)
  · rintro i fr t x v hx ⟨e0, e1, e2, e3, y, e4, e5⟩
    refine ⟨e0, ?_, ?_, ?_, y, ?_, e5⟩ <;> rcases hx with rfl | rfl | rfl <;> simp only [sims, rI, rN, e1, e2, e3, e4]
  · rintro i fr t hlt ⟨e0, e1, e2, e3, y, e4, e5⟩ h62 h61
    have Nt := N3.low e0 l23.2.1
    obtain ⟨a, ha, hcell⟩ := Nt.cell (i := i) (by exact hlt)
    cases ha
    rw [List.getElem?_map, List.getElem?_eq_getElem (show i < c.numbers.length from hlt), Option.map_some, add_eq, Nat.zero_add] at hcell
    have hbl : Nat.blt i 5 = true := by rw [Nat.blt_eq]; exact hlt
    refine W_seq (W_region (by simp only [sims, rI, rN, e3, h62, hbl, hcell]; rfl) ?_)
    refine W_opsM (Wo_run (by simp only [sims, rI, rN, e4]; rfl) (Wo_call hC.client_number.prim (by simp only [sims, rI, rN]; try rfl) ((number_run hC hC.client_number (hno i hlt).1 (hno i hlt).2).mono ?_)))
    rintro r t1 ⟨g1, l1⟩
    have hcnt : (countB c.do_).length ≤ 32 := by show c.do_.length + 1 ≤ 32; omega
    have hpre : ∀ (ns : List Int), ((ns.map numB).flatten).length = 4 * ns.length := by
      intro ns
      induction ns with
      | nil => rfl
      | cons n ns ih => rw [List.map_cons, List.flatten_cons, List.length_append, ih, List.length_cons]; unfold numB; rw [beB_length]; omega
    refine Wo_append (lo := s4.next) (by simp only [sims, rI, rN]) (by simp only [sims, rI, rN]) (e5.low l1 (Nat.le_refl _)) (Nat.le_trans e0.2.1 l1.2.1) g1.sl.feed (by decide) (by
      rw [List.length_map, List.length_map, List.length_append, hpre, List.length_take, beB_length]
      unfold room
      omega) ?_
    rintro y2 t2 g2 l2 -
    refine Wo_all (by simp only [sims, rI, rN]; rfl) ?_
    refine ⟨⟨(e0.trans (l1.weak e0.2.1)).trans l2, by simp only [sims, rI, rN, e1], by simp only [sims, rI, rN, e2], by simp only [sims, rI, rN, e3], y2, by simp only [sims, rI, rN], ?_⟩, by simp only [sims, rI, rN, h62], by simp only [sims, rI, rN, h61]⟩
    have ht : ((c.numbers.take (i + 1)).map numB).flatten = ((c.numbers.take i).map numB).flatten ++ beB 4 (c.numbers[i] + 2147483648).toNat := by
      rw [List.take_succ_eq_append_getElem (show i < c.numbers.length from hlt), List.map_append, List.flatten_append, List.map_cons, List.map_nil, List.flatten_cons, List.flatten_nil, List.append_nil]
      rfl
    rw [ht, ← List.append_assoc, List.map_append]
    exact g2
  rintro fr6 s6 ⟨l46, e1, e2, e3, y, e4, e5⟩
  rw [show c.numbers.take 5 = c.numbers from rfl] at e5
  show W E _ fr6 s6 _
  have B6 := B3.next l46 B3.lt hle4
  have R6 := R4.low l46 (Nat.le_refl _)
  have D6 := (hd.low B3.low hhi).low l46 (Nat.le_trans hhi hle4)
  have Y6 : Sl s6 s6.next 1 _ _ := e5.sl
  obtain ⟨py, ny, cy, rfl, _⟩ := Y6.parts
  obtain ⟨px, nx, cx, rfl, _⟩ := R6.parts
  refine W_seq (W_ops ?_)
  have d3 := cell (i := 3) B6 rfl
  have d4 := cell (i := 4) B6 rfl
  have d18 := cell (i := 18) B6 rfl
  refine Wo_run (by simp only [sims, rI, rN, e1, e2, e4, d3, d4, d18, mrow B6]; rfl) ?_
  have l6k : Low s6.next s6 (s6.skip 18) := (Low.self s6).skip 18
  have B7 := B6.go l6k
  have Y7 := Y6.low l6k (Nat.le_refl _)
  have R7 := R6.low l6k l46.2.1
  have D7 := D6.low l6k (Nat.le_trans (Nat.le_trans hhi hle4) l46.2.1)
  generalize hs7 : s6.skip 18 = s7 at B7 Y7 R7 D7 l6k
  refine Wo_gen (T := [(1, ptr s.next 0), (71, .slice py ny cy), (73, strOf c.name), (75, .pointer (some ⟨s.next, 4, none⟩)), (76, strOf c.to), (78, .pointer (some ⟨s.next, 8, none⟩)), (79, .agg ⟨[.bool c.b0, .bool c.b1, .bool c.b2, .bool c.b3]⟩), (82, .slice px nx cx), (83, .pointer (some ⟨s.next, 18, none⟩)), (84, .slice p n k)])
    (all_cons (by simp only [sims, rI, rN, e1]) (all_cons (by simp only [sims, rI, rN]) (all_cons (by simp only [sims, rI, rN]) (all_cons (by simp only [sims, rI, rN]) (all_cons (by simp only [sims, rI, rN]) (all_cons (by simp only [sims, rI, rN]) (all_cons (by simp only [sims, rI, rN]) (all_cons (by simp only [sims, rI, rN]) (all_cons (by simp only [sims, rI, rN]) (all_cons (by simp only [sims, rI, rN]) all_nil)))))))))) fun fr7 h7 => ?_
  have f71 := h7 _ (.tail _ (.head _))
  have f73 := h7 _ (.tail _ (.tail _ (.head _)))
  have f75 := h7 _ (.tail _ (.tail _ (.tail _ (.head _))))
  have f76 := h7 _ (.tail _ (.tail _ (.tail _ (.tail _ (.head _)))))
  have f78 := h7 _ (.tail _ (.tail _ (.tail _ (.tail _ (.tail _ (.head _))))))
  have f79 := h7 _ (.tail _ (.tail _ (.tail _ (.tail _ (.tail _ (.tail _ (.head _)))))))
  have f82 := h7 _ (.tail _ (.tail _ (.tail _ (.tail _ (.tail _ (.tail _ (.tail _ (.head _))))))))
  have f83 := h7 _ (.tail _ (.tail _ (.tail _ (.tail _ (.tail _ (.tail _ (.tail _ (.tail _ (.head _)))))))))
  have f84 := h7 _ (.tail _ (.tail _ (.tail _ (.tail _ (.tail _ (.tail _ (.tail _ (.tail _ (.tail _ (.head _))))))))))
  clear h7
  simp only at f71 f73 f75 f76 f78 f79 f82 f83 f84
  have sm : same (.agg ⟨[.bool c.b0, .bool c.b1, .bool c.b2, .bool c.b3]⟩) (.agg ⟨[.bool c.b0, .bool c.b1, .bool c.b2, .bool c.b3]⟩) = true := same_agg (by
    intro v hv
    simp only [List.mem_cons, List.not_mem_nil, or_false] at hv
    rcases hv with rfl | rfl | rfl | rfl <;> exact sameV_bool _)
  have hsp := hd.spot
  have again84 : ∀ (t : St) (fr : Fr), Boxed s.next s t s.next (c.cells (.slice p n k)) → fr.get 83 = some (.pointer (some ⟨s.next, 18, none⟩)) → fr.get 84 = some (.slice p n k) → againOk fr t [(some 84, .load1 (.t 83), none)] = true := fun t fr h a1 a2 => again_load1 a1 (cell (i := 18) h rfl) a2 (same_slice hsp) again_nil
  have again79 : ∀ (t : St) (fr : Fr), Boxed s.next s t s.next (c.cells (.slice p n k)) → fr.get 83 = some (.pointer (some ⟨s.next, 18, none⟩)) → fr.get 84 = some (.slice p n k) → fr.get 78 = some (.pointer (some ⟨s.next, 8, none⟩)) → fr.get 79 = some (.agg ⟨[.bool c.b0, .bool c.b1, .bool c.b2, .bool c.b3]⟩) → againOk fr t [(some 79, .loadN 4 (.t 78), none), (some 84, .load1 (.t 83), none)] = true := fun t fr h a1 a2 a3 a4 => again_loadN a3 (mrow h) a4 sm (again84 t fr h a1 a2)
  refine Wo_callA hC.client_counted.prim (by simp only [sims, rI, rN, f73]; try rfl) ((counted_run hC hC.client_counted hb3).mono ?_)
  rintro r74 s8 ⟨g8, l8⟩
  have B8 := B7.go l8
  refine ⟨again_load1 f75 (cell (i := 4) B8 rfl) f76 (same_str _) (again79 s8 fr7 B8 f83 f84 f78 f79), ?_⟩
  have Y8 := Y7.low l8 l6k.2.1
  have R8 := R7.low l8 (Nat.le_trans l46.2.1 l6k.2.1)
  have D8 := D7.low l8 (Nat.le_trans (Nat.le_trans (Nat.le_trans hhi hle4) l46.2.1) l6k.2.1)
  obtain ⟨pa, na, ca, rfl, _⟩ := g8.sl.parts
  refine Wo_callA hC.client_counted.prim (by simp only [sims, rI, rN, f76]; try rfl) ((counted_run hC hC.client_counted hb4).mono ?_)
  rintro r77 s9 ⟨g9, l9⟩
  have B9 := B8.go l9
  refine ⟨again79 s9 _ B9 (by simp only [sims, rI, rN, f83]) (by simp only [sims, rI, rN, f84]) (by simp only [sims, rI, rN, f78]) (by simp only [sims, rI, rN, f79]), ?_⟩
  have l79 : Low s7.next s7 s9 := l8.trans (l9.weak l8.2.1)
  have g8 := g8.low l9 (Nat.le_refl _)
  obtain ⟨pc, nc, cc, rfl, _⟩ := g9.sl.parts
  refine Wo_callA hC.client_modeByte.prim (by simp only [sims, rI, rN, f79]; try rfl) ((modeByte_run hC.client_modeByte c.b0 c.b1 c.b2 c.b3).mono ?_)
  rintro _ s10 ⟨rfl, l10⟩
  have B10 := B9.go l10
  refine ⟨again84 s10 _ B10 (by simp only [sims, rI, rN, f83]) (by simp only [sims, rI, rN, f84]), ?_⟩
  have g8 := g8.low l10 (Nat.le_refl _)
  have g9 := g9.low l10 (Nat.le_refl _)
  have l710 : Low s7.next s7 s10 := l79.trans (l10.weak l79.2.1)
  have D10 := D7.low l710 (Nat.le_trans (Nat.le_trans (Nat.le_trans hhi hle4) l46.2.1) l6k.2.1)
  refine Wo_call hC.client_long.prim (by simp only [sims, rI, rN, f84]; try rfl) ((long_run hC hC.client_long (Nat.le_trans (Nat.le_trans (Nat.le_trans (Nat.le_trans hhi hle4) l46.2.1) l6k.2.1) l710.2.1) D10 (by omega)).mono ?_)
  rintro r85 s11 ⟨g11, l11⟩
  have g8 := g8.low l11 (Nat.le_refl _)
  have g9 := g9.low l11 (Nat.le_refl _)
  have l711 : Low s7.next s7 s11 := l710.trans (l11.weak l710.2.1)
  have hs7n : s7.next = s6.next + 18 := by rw [← hs7, next_skip]
  obtain ⟨pg, ng, cg, rfl, _⟩ := g11.sl.parts
  have hm16 : modeN [c.b0, c.b1, c.b2, c.b3] < 16 := modeN_lt [c.b0, c.b1, c.b2, c.b3]
  have hmode : Value.int .u8 ((modeN [c.b0, c.b1, c.b2, c.b3] : Nat) : Int) = ofByte (UInt8.ofNat (modeN c.modes)) := by
    rw [ofByte_ofNat, Nat.mod_eq_of_lt (by show modeN [c.b0, c.b1, c.b2, c.b3] < 256; omega)]; rfl
  have n79 := l79.2.1
  have n710 := l710.2.1
  have n711 := l711.2.1
  have n78 := l8.2.1
  refine Wo_buildSlice (size := 1) (lo := s6.next) (cs := [ofByte (UInt8.ofNat (modeN c.modes))]) (by simp only [sims, rI, rN]; rw [hmode]; rfl) rfl (Nat.le_add_right _ _) (by omega) (by decide) ?_
  rintro s12 ⟨-, M12⟩ g12 hs12
  refine Wo_buildSlice (size := 1) (lo := s6.next) (cs := [.slice py ny cy, .slice pa na ca, .slice pc nc cc, .slice (some ⟨s6.next + 10, 0, none⟩) 1 1, .slice px nx cx, .slice pg ng cg]) (by simp only [sims, rI, rN, f71, f82]; rfl) rfl (Nat.le_add_right _ _) (by rw [hs12, St.next_set]; omega) (by decide) ?_
  rintro s13 ⟨S13, -⟩ g13 hs13
  have n13 : s13.next = s11.next := by rw [hs13, St.next_set, hs12, St.next_set]
  have e8 := (g8.other (a := s6.next + 10) (.cells [ofByte (UInt8.ofNat (modeN c.modes))] 0 .ex) (by omega))
  have e9 := (g9.other (a := s6.next + 10) (.cells [ofByte (UInt8.ofNat (modeN c.modes))] 0 .ex) (by omega))
  have e11 := (g11.other (a := s6.next + 10) (.cells [ofByte (UInt8.ofNat (modeN c.modes))] 0 .ex) (by omega))
  rw [← hs12] at e8 e9 e11
  have e8 := (e8.other (a := s6.next + 15) (.cells [.slice py ny cy, .slice pa na ca, .slice pc nc cc, .slice (some ⟨s6.next + 10, 0, none⟩) 1 1, .slice px nx cx, .slice pg ng cg] 0 .ex) (by omega)).sl
  have e9 := (e9.other (a := s6.next + 15) (.cells [.slice py ny cy, .slice pa na ca, .slice pc nc cc, .slice (some ⟨s6.next + 10, 0, none⟩) 1 1, .slice px nx cx, .slice pg ng cg] 0 .ex) (by omega)).sl
  have e11 := (e11.other (a := s6.next + 15) (.cells [.slice py ny cy, .slice pa na ca, .slice pc nc cc, .slice (some ⟨s6.next + 10, 0, none⟩) 1 1, .slice px nx cx, .slice pg ng cg] 0 .ex) (by omega)).sl
  rw [← hs13] at e8 e9 e11
  have M13 : Sl s13 s13.next 1 (.slice (some ⟨s6.next + 10, 0, none⟩) 1 1) [ofByte (UInt8.ofNat (modeN c.modes))] := by
    have h := Sl.mk (s := s13) (hi := s13.next) (size := 1) (b := s6.next + 10) (o := 0) (n := 1) (c := 1) (cells := [ofByte (UInt8.ofNat (modeN c.modes))]) (es := 0) (md := .ex) (by omega) (by rw [hs13, St.get_set_ne _ _ (by omega), hs12]; exact St.get_set_same _ _ _) (by show 0 + 1 * 1 ≤ 1; decide) (.inl ⟨Nat.le_refl _, by decide⟩)
    exact h
  have l613 : Low s6.next s6 s13 := ((l6k.trans (l711.weak l6k.2.1)).trans g12).trans g13
  have Y13 := Y6.low l613 (Nat.le_refl _)
  have R13 := R6.low l613 l46.2.1
  have n613 := l613.2.1
  refine Wo_call hC.slices_Concat_byte_byte.prim (by simp only [sims, rI, rN]; try rfl) ((Concat_run hC hC.slices_Concat_byte_byte (hi := s13.next) (ls := [countB c.do_ ++ (c.numbers.map numB).flatten, countB c.name, countB c.to, [UInt8.ofNat (modeN c.modes)], bytesR c.o c.g c.fo c.fg c.fa c.bl, beB 2 l.length ++ l]) (Nat.le_refl _) (S13.wide (by omega)) rfl ?_ ?_ (by show 6 ≤ 1000000; decide)).mono ?_)
  · intro i x m hx hm
    match i, hx, hm with
    | 0, hx, hm => cases hx; cases hm; exact Y13.wide n613
    | 1, hx, hm => cases hx; cases hm; exact e8
    | 2, hx, hm => cases hx; cases hm; exact e9
    | 3, hx, hm => cases hx; cases hm; exact M13
    | 4, hx, hm => cases hx; cases hm; exact R13.wide (Nat.le_trans l46.2.1 n613)
    | 5, hx, hm => cases hx; cases hm; exact e11
    | n + 6, hx, hm => cases hx
  · have h1 : (c.numbers.map numB).flatten.length = 20 := by
      simp [CallC.numbers, numB, beB_length]
    have h2 : (bytesR c.o c.g c.fo c.fg c.fa c.bl).length = 12 := by simp [bytesR, beB_length]
    simp only [List.flatten_cons, List.flatten_nil, List.length_append, List.length_cons, List.length_nil, h1, h2, beB_length, countB]
    omega
  rintro x s14 ⟨g14, l14⟩
  refine Wo_all (by simp only [sims, rI, rN]; rfl) ?_
  have hfin : [countB c.do_ ++ (c.numbers.map numB).flatten, countB c.name, countB c.to, [UInt8.ofNat (modeN c.modes)], bytesR c.o c.g c.fo c.fg c.fa c.bl, beB 2 l.length ++ l].flatten = c.bytes l := by
    simp [CallC.bytes]
  rw [hfin] at g14
  have l13 : Low s.next s s13 := (B6.low).trans (l613.weak (Nat.le_trans hle4 l46.2.1))
  refine W_seq (W_region (by simp only [sims, rI, rN]; rfl) (W_ret ⟨rfl, _, res_tmp (res_tmp res_nil), .inl ⟨hok, x, by simp only [sims, rI, rN, tupled], g14.weak (Nat.le_trans (Nat.le_trans hle4 l46.2.1) n613), l13.trans (l14.weak (Nat.le_trans (Nat.le_trans hle4 l46.2.1) n613))⟩⟩))
end
end
end Go.Ev
