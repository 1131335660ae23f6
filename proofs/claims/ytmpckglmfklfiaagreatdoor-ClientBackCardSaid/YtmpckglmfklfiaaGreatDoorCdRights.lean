/-
  Rights as bytes, the program's side: Valid, PutRights, GetRights.
-/
import Derived.Test.YtmpckglmfklfiaaGreatDoorCdCat
set_option linter.unusedVariables false
set_option linter.unusedSimpArgs false
namespace Go.Ev
open Int renaming reduceEq → rI
open Nat renaming reduceEqDiff → rN
noncomputable section
def rightsC (o g fo fg fa : Int) (b : Bool) : List Value := [.int .i64 o, .int .i64 g, .int .i64 fo, .int .i64 fg, .int .i64 fa, .bool b]
def validR (o g fo fg fa : Int) : Prop := 0 ≤ o ∧ 0 ≤ g ∧ (0 ≤ fo ∧ fo ≤ 7) ∧ (0 ≤ fg ∧ fg ≤ 7) ∧ (0 ≤ fa ∧ fa ≤ 7)
instance (o g fo fg fa : Int) : Decidable (validR o g fo fg fa) := by unfold validR; infer_instance
section
variable {E : Env} {f : FuncId} {s : St} {o g fo fg fa : Int} {b : Bool}
theorem Valid_run (hC : Codes E) (hf : Has E f Code.rights_Valid) : Cv E f [.agg ⟨rightsC o g fo fg fa b⟩] s fun v s' => v = .bool (decide (validR o g fo fg fa)) ∧ Low s.next s s' := by
  refine Cv_of hf.code ?_
  have h0 : (Tr.ofList (.e : Fr) 0 [.agg ⟨rightsC o g fo fg fa b⟩]).get 0 = some (.agg ⟨rightsC o g fo fg fa b⟩) := rfl
  generalize (Tr.ofList (.e : Fr) 0 [.agg ⟨rightsC o g fo fg fa b⟩]) = fr0 at h0
  have hv : vcells (.agg ⟨rightsC o g fo fg fa b⟩) = rightsC o g fo fg fa b := rfl
  have hs : storable (.agg ⟨rightsC o g fo fg fa b⟩) = true := rfl
  unfold Code.rights_Valid
  refine W_seq (W_region (by simp only [sims, rI, rN, h0, hv, hs]; rfl) ?_)
  have hlow : Low s.next s ((s.skip 2).set s.next (.cells (rightsC o g fo fg fa b) 0 .ex)) := ((Low.self s).skip 2).set (Nat.le_refl _) _
  have c0 := cell_set (s.skip 2) s.next 0 0 (rightsC o g fo fg fa b) .ex
  have c1 := cell_set (s.skip 2) s.next 1 0 (rightsC o g fo fg fa b) .ex
  have c2 := cell_set (s.skip 2) s.next 2 0 (rightsC o g fo fg fa b) .ex
  have c3 := cell_set (s.skip 2) s.next 3 0 (rightsC o g fo fg fa b) .ex
  have c4 := cell_set (s.skip 2) s.next 4 0 (rightsC o g fo fg fa b) .ex
  generalize (s.skip 2).set s.next (.cells (rightsC o g fo fg fa b) 0 .ex) = s1 at hlow c0 c1 c2 c3 c4
  have c0 : s1.cell ⟨s.next, 0, none⟩ = some (.int .i64 o) := c0
  have c1 : s1.cell ⟨s.next, 1, none⟩ = some (.int .i64 g) := c1
  have c2 : s1.cell ⟨s.next, 2, none⟩ = some (.int .i64 fo) := c2
  have c3 : s1.cell ⟨s.next, 3, none⟩ = some (.int .i64 fg) := c3
  have c4 : s1.cell ⟨s.next, 4, none⟩ = some (.int .i64 fa) := c4
  have fin : ∀ (fr : Fr) (q : Bool), fr.get 2 = some (.bool q) → q = decide (validR o g fo fg fa) →
      W E .ret fr s1 fun e fr s' => isExit e = false ∧ ∃ l, optL (oneRes fr s') [.tmp 2] = some l ∧ tupled l = .bool (decide (validR o g fo fg fa)) ∧ Low s.next s s' := by
    intro fr q h1 h2
    exact W_ret ⟨rfl, _, res_tmp res_nil, by rw [h1, ← h2]; rfl, hlow⟩
  refine W_seq (W_opsM ?_)
  cases e1 : decide ((0 : Int) ≤ o) with
  | false =>
    rw [decide_eq_false_iff_not] at e1
    refine Wo_run (by simp only [sims, rI, rN, c0, c1, c2, decide_eq_false e1]; rfl) (Wo_gf (by simp only [sims, rI, rN]) (Wo_run (by simp only [sims, rI, rN]; rfl) (Wo_gf (by simp only [sims, rI, rN]) (Wo_run (by simp only [sims, rI, rN]; rfl) (Wo_gf (by simp only [sims, rI, rN]) (Wo_all (by simp only [sims, rI, rN]; rfl) (fin _ false (by simp only [sims, rI, rN]) (by symm; rw [decide_eq_false_iff_not]; unfold validR; omega))))))))
  | true =>
  rw [decide_eq_true_eq] at e1
  cases e2 : decide ((0 : Int) ≤ g) with
  | false =>
    rw [decide_eq_false_iff_not] at e2
    refine Wo_run (by simp only [sims, rI, rN, c0, c1, c2, decide_eq_true e1, decide_eq_false e2]; rfl) (Wo_gf (by simp only [sims, rI, rN]) (Wo_run (by simp only [sims, rI, rN]; rfl) (Wo_gf (by simp only [sims, rI, rN]) (Wo_run (by simp only [sims, rI, rN]; rfl) (Wo_gf (by simp only [sims, rI, rN]) (Wo_all (by simp only [sims, rI, rN]; rfl) (fin _ false (by simp only [sims, rI, rN]) (by symm; rw [decide_eq_false_iff_not]; unfold validR; omega))))))))
  | true =>
  rw [decide_eq_true_eq] at e2
  refine Wo_run (by simp only [sims, rI, rN, c0, c1, c2, decide_eq_true e1, decide_eq_true e2]; rfl) (Wo_gt (by simp only [sims, rI, rN]) (Wo_call hC.rights_within.prim (by simp only [sims, rI, rN]; rfl) ((within_run hC.rights_within _ _ _).mono ?_)))
  rintro _ _ ⟨rfl, hs1⟩
  rw [hs1]; clear hs1
  cases e3 : decide ((0 : Int) ≤ fo ∧ fo ≤ 7) with
  | false =>
    rw [decide_eq_false_iff_not] at e3
    refine Wo_run (by simp only [sims, rI, rN]; rfl) (Wo_gf (by simp only [sims, rI, rN]) (Wo_run (by simp only [sims, rI, rN]; rfl) (Wo_gf (by simp only [sims, rI, rN]) (Wo_all (by simp only [sims, rI, rN]; rfl) (fin _ false (by simp only [sims, rI, rN]) (by symm; rw [decide_eq_false_iff_not]; unfold validR; omega))))))
  | true =>
  rw [decide_eq_true_eq] at e3
  refine Wo_run (by simp only [sims, rI, rN, c3]; rfl) (Wo_gt (by simp only [sims, rI, rN]) (Wo_call hC.rights_within.prim (by simp only [sims, rI, rN]; rfl) ((within_run hC.rights_within _ _ _).mono ?_)))
  rintro _ _ ⟨rfl, hs1⟩
  rw [hs1]; clear hs1
  cases e4 : decide ((0 : Int) ≤ fg ∧ fg ≤ 7) with
  | false =>
    rw [decide_eq_false_iff_not] at e4
    refine Wo_run (by simp only [sims, rI, rN]; rfl) (Wo_gf (by simp only [sims, rI, rN]) (Wo_all (by simp only [sims, rI, rN]; rfl) (fin _ false (by simp only [sims, rI, rN]) (by symm; rw [decide_eq_false_iff_not]; unfold validR; omega))))
  | true =>
  rw [decide_eq_true_eq] at e4
  refine Wo_run (by simp only [sims, rI, rN, c4]; rfl) (Wo_gt (by simp only [sims, rI, rN]) (Wo_call hC.rights_within.prim (by simp only [sims, rI, rN]; rfl) ((within_run hC.rights_within _ _ _).mono ?_)))
  rintro _ _ ⟨rfl, hs1⟩
  rw [hs1]; clear hs1
  refine Wo_all (by simp only [sims, rI, rN]; rfl) (fin _ (decide ((0 : Int) ≤ fa ∧ fa ≤ 7)) (by simp only [sims, rI, rN]) ?_)
  rw [decide_eq_decide]
  unfold validR
  omega
def okR (o g fo fg fa : Int) : Prop := validR o g fo fg fa ∧ o < 4294967296 ∧ g < 4294967296
instance (o g fo fg fa : Int) : Decidable (okR o g fo fg fa) := by unfold okR; infer_instance
def bytesR (o g fo fg fa : Int) (b : Bool) : List UInt8 := beB 4 o.toNat ++ (beB 4 g.toNat ++ [UInt8.ofNat fo.toNat, UInt8.ofNat fg.toNat, UInt8.ofNat fa.toNat, if b then 1 else 0])
theorem PutRights_run (hC : Codes E) (hf : Has E f Code.server_PutRights) : Cv E f [.agg ⟨rightsC o g fo fg fa b⟩] s fun r s' =>
    (okR o g fo fg fa ∧ ∃ x, r = .tuple ⟨[x, .int .i64 0]⟩ ∧ Gr s' s.next 1 x ((bytesR o g fo fg fa b).map ofByte) ∧ Low s.next s s') ∨ (¬ okR o g fo fg fa ∧ r = .tuple ⟨[.slice none 0 0, .int .i64 2]⟩ ∧ Low s.next s s') := by
  refine Cv_of hf.code ?_
  have h0 : (Tr.ofList (.e : Fr) 0 [.agg ⟨rightsC o g fo fg fa b⟩]).get 0 = some (.agg ⟨rightsC o g fo fg fa b⟩) := rfl
  generalize (Tr.ofList (.e : Fr) 0 [.agg ⟨rightsC o g fo fg fa b⟩]) = fr0 at h0
  have hv : vcells (.agg ⟨rightsC o g fo fg fa b⟩) = rightsC o g fo fg fa b := rfl
  have hs : storable (.agg ⟨rightsC o g fo fg fa b⟩) = true := rfl
  unfold Code.server_PutRights
  refine W_seq (W_region (by simp only [sims, rI, rN, h0, hv, hs]; rfl) ?_)
  have hb1 := boxed_set s 3 0 (rightsC o g fo fg fa b) (by decide)
  generalize (s.skip 3).set s.next (.cells (rightsC o g fo fg fa b) 0 .ex) = s1 at hb1
  have c0 : s1.cell ⟨s.next, 0, none⟩ = some (.int .i64 o) := hb1.cell
  have bad : ∀ (fr : Fr) (s' : St), fr.get 2 = some (.slice none 0 0) → fr.get 3 = some (.int .i64 2) → ¬ okR o g fo fg fa → Low s.next s s' →
      isExit Ex.ret = false ∧ ∃ l, optL (oneRes fr s') [.tmp 2, .tmp 3] = some l ∧ ((okR o g fo fg fa ∧ ∃ x, tupled l = .tuple ⟨[x, .int .i64 0]⟩ ∧ Gr s' s.next 1 x ((bytesR o g fo fg fa b).map ofByte) ∧ Low s.next s s') ∨ (¬ okR o g fo fg fa ∧ tupled l = .tuple ⟨[.slice none 0 0, .int .i64 2]⟩ ∧ Low s.next s s')) := by
    intro fr s' g4 g5 hb hl
    exact ⟨rfl, _, res_tmp (res_tmp res_nil), .inr ⟨hb, by rw [g4, g5]; rfl, hl⟩⟩
  refine W_seq (W_opsM (Wo_run (by simp only [sims, rI, rN, c0]; rfl) (Wo_call hC.octet_Put.prim (by simp only [sims, rI, rN]; rfl) ((Put_run hC hC.octet_Put (n := 4) (by decide) o).mono ?_))))
  have two32 : (2 : Int) ^ (8 * 4) = 4294967296 := by decide
  rw [two32]
  intro r1 s2 hr1
  obtain ⟨x1, e1, rfl, hx1, hlow2, hb2⟩ : ∃ (x1 : Value) (e1 : Int), r1 = .tuple ⟨[x1, .int .i64 e1]⟩ ∧ ((e1 = 0 ∧ 0 ≤ o ∧ o < 4294967296 ∧ Gr s2 s1.next 1 x1 ((beB 4 o.toNat).map ofByte)) ∨ (e1 = 2 ∧ ¬ (0 ≤ o ∧ o < 4294967296))) ∧ Low s1.next s1 s2 ∧ True := by
    rcases hr1 with ⟨k1, k2, x, rfl, k3, k4⟩ | ⟨k1, rfl, rfl⟩
    · exact ⟨x, 0, rfl, .inl ⟨rfl, k1, k2, k3⟩, k4, trivial⟩
    · exact ⟨_, 2, rfl, .inr ⟨rfl, k1⟩, Low.self _, trivial⟩
  have nth0 : ∀ (x y : Value), nthL [x, y] 0 = some x := fun _ _ => rfl
  have nth1 : ∀ (x y : Value), nthL [x, y] 1 = some y := fun _ _ => rfl
  refine Wo_all (by simp only [sims, rI, rN, nth0, nth1]; rfl) ?_
  have hb2 := hb1.next hlow2 hb1.lt hb1.low.2.1
  have c1 : s2.cell ⟨s.next, 1, none⟩ = some (.int .i64 g) := hb2.cell
  refine W_seq (W_opsM (Wo_run (by simp only [sims, rI, rN, c1]; rfl) (Wo_call hC.octet_Put.prim (by simp only [sims, rI, rN]; rfl) ((Put_run hC hC.octet_Put (n := 4) (by decide) g).mono ?_))))
  rw [two32]
  intro r2 s3 hr2
  obtain ⟨x2, e2, rfl, hx2, hlow3⟩ : ∃ (x2 : Value) (e2 : Int), r2 = .tuple ⟨[x2, .int .i64 e2]⟩ ∧ ((e2 = 0 ∧ 0 ≤ g ∧ g < 4294967296 ∧ Gr s3 s2.next 1 x2 ((beB 4 g.toNat).map ofByte)) ∨ (e2 = 2 ∧ ¬ (0 ≤ g ∧ g < 4294967296))) ∧ Low s2.next s2 s3 := by
    rcases hr2 with ⟨k1, k2, x, rfl, k3, k4⟩ | ⟨k1, rfl, rfl⟩
    · exact ⟨x, 0, rfl, .inl ⟨rfl, k1, k2, k3⟩, k4⟩
    · exact ⟨_, 2, rfl, .inr ⟨rfl, k1⟩, Low.self _⟩
  refine Wo_all (by simp only [sims, rI, rN, nth0, nth1]; rfl) ?_
  have hb3 := hb2.next hlow3 hb2.lt hb2.low.2.1
  refine W_seq (W_seq (W_opsM (Wo_run (by simp only [sims, rI, rN, hb3.row (n := 6) rfl]; rfl) (Wo_call hC.rights_Valid.prim (by simp only [sims, rI, rN]; rfl) ((Valid_run hC hC.rights_Valid).mono ?_)))))
  rintro _ s4 ⟨rfl, hlow4⟩
  have hb4 := hb3.next hlow4 hb3.lt hb3.low.2.1
  cases e3 : decide (validR o g fo fg fa) with
  | false =>
    rw [decide_eq_false_iff_not] at e3
    refine Wo_all (by simp only [sims, rI, rN, Bool.not_false, Bool.not_true]; rfl) (W_then (by simp only [sims, rI, rN]) ?_)
    exact W_seq (W_region (by simp only [sims, rI, rN]; rfl) (W_ret (bad _ _ (by simp only [sims, rI, rN]) (by simp only [sims, rI, rN]) (fun h => e3 h.1) hb4.low)))
  | true =>
  rw [decide_eq_true_eq] at e3
  rcases hx1 with ⟨rfl, ho1, ho2, hg1⟩ | ⟨rfl, ho⟩
  case inr =>
    refine Wo_all (by simp only [sims, rI, rN, Bool.not_false, Bool.not_true, show decide ((2 : Int) = 0) = false from rfl]; rfl) (W_then (by simp only [sims, rI, rN]) ?_)
    exact W_seq (W_region (by simp only [sims, rI, rN]; rfl) (W_ret (bad _ _ (by simp only [sims, rI, rN]) (by simp only [sims, rI, rN]) (fun h => ho ⟨h.1.1, h.2.1⟩) hb4.low)))
  rcases hx2 with ⟨rfl, hg1', hg2', hg2⟩ | ⟨rfl, hg'⟩
  case inr =>
    refine Wo_all (by simp only [sims, rI, rN, Bool.not_false, Bool.not_true, show decide ((2 : Int) = 0) = false from rfl, show decide ((0 : Int) = 0) = true from rfl]; rfl) (W_then (by simp only [sims, rI, rN]) ?_)
    exact W_seq (W_region (by simp only [sims, rI, rN]; rfl) (W_ret (bad _ _ (by simp only [sims, rI, rN]) (by simp only [sims, rI, rN]) (fun h => hg' ⟨h.1.2.1, h.2.2⟩) hb4.low)))
  refine Wo_all (by simp only [sims, rI, rN, Bool.not_false, Bool.not_true, show decide ((0 : Int) = 0) = true from rfl]; rfl) (W_else (by simp only [sims, rI, rN]) (W_skip ?_))
  have hok : okR o g fo fg fa := ⟨e3, ho2, hg2'⟩
  have c5 : s4.cell ⟨s.next, 5, none⟩ = some (.bool b) := hb4.cell
  have c2 : s4.cell ⟨s.next, 2, none⟩ = some (.int .i64 fo) := hb4.cell
  have c3 : s4.cell ⟨s.next, 3, none⟩ = some (.int .i64 fg) := hb4.cell
  have c4 : s4.cell ⟨s.next, 4, none⟩ = some (.int .i64 fa) := hb4.cell
  have small : ∀ n : Int, 0 ≤ n ∧ n ≤ 7 → Value.int .u8 (wr .u8 n) = ofByte (UInt8.ofNat n.toNat) := by
    intro n hn
    rw [ofByte_ofNat, wr_u8 (by omega) (by omega)]
    congr 1
    omega
  refine W_seq (W_region (by simp only [sims, rI, rN]; rfl) ?_)
  refine W_seq (W.cut (P := fun e fr' s' => e = .normal ∧ s' = s4 ∧ fr'.get 8 = some (ofByte (if b then 1 else 0))) ?_ rfl ?_)
  · refine W_seq (W_region (by simp only [sims, rI, rN, c5]; rfl) (W_ifb (q := b) (by simp only [sims, rI, rN]) (fun h => ?_) (fun h => ?_)))
    · exact W_region (by simp only [sims, rI, rN]; rfl) ⟨rfl, rfl, by simp only [sims, rI, rN]; rw [h]; rfl⟩
    · exact W_skip ⟨rfl, rfl, by simp only [sims, rI, rN]; rw [h]; rfl⟩
  rintro e fr5 s5 ⟨rfl, rfl, h8⟩ hk
  have k1 := hk 1 (by decide)
  have k4 := hk 4 (by decide)
  have k6 := hk 6 (by decide)
  simp only [sims, rI, rN] at k1 k4 k6
  clear hk
  show W E _ fr5 s5 _
  obtain ⟨p1, n1, d1, rfl, _⟩ := hg1.sl.parts
  obtain ⟨p2, n2, d2, rfl, _⟩ := hg2.sl.parts
  have v2 := small fo e3.2.2.1
  have v3 := small fg e3.2.2.2.1
  have v4 := small fa e3.2.2.2.2
  have k8 : fr5.get 8 = some (.int .u8 ((if b then 1 else 0 : UInt8).toNat : Int)) := h8
  refine W_seq (W_opsM ?_)
  refine Wo_run (l := [_, _, _, _, _, _, _, _, _, _, _, _]) (by simp only [sims, rI, rN, k1, k4, k6, k8, c2, c3, c4, v2, v3, v4]; rfl) ?_
  refine Wo_buildSlice (size := 1) (lo := s5.next) (cs := [ofByte (UInt8.ofNat fo.toNat), ofByte (UInt8.ofNat fg.toNat), ofByte (UInt8.ofNat fa.toNat), ofByte (if b then 1 else 0)]) (by simp only [sims, rI, rN]; rfl) rfl (Nat.le_add_right _ _) (by rw [next_skip]; omega) (by decide) ?_
  rintro s6 ⟨g1, -⟩ g2 hs6
  have hn6 : s6.next = s5.next + 17 := by rw [hs6, St.next_set, next_skip]
  refine Wo_buildSlice (size := 1) (lo := s5.next + 13) (cs := [.slice p1 n1 d1, .slice p2 n2 d2, .slice (some ⟨s5.next + 12, 0, none⟩) 4 4]) (by simp only [sims, rI, rN]; rfl) rfl (Nat.le_refl _) (by rw [hn6]; omega) (by decide) ?_
  rintro s7 ⟨g3, -⟩ g4 hs7
  have hn7 : s7.next = s5.next + 17 := by rw [hs7, St.next_set, hn6]
  have l67 : Low s5.next s5 s6 := ((Low.self s5).skip 17).trans g2
  have l57 : Low s5.next s5 s7 := l67.trans (g4.weak (by omega))
  have l27 : Low s2.next s2 s7 := (hlow3.trans (hlow4.weak hlow3.2.1)).trans (l57.weak (Nat.le_trans hlow3.2.1 hlow4.2.1))
  have l37 : Low s3.next s3 s7 := hlow4.trans (l57.weak hlow4.2.1)
  refine Wo_call hC.slices_Concat_byte_byte.prim (by simp only [sims, rI, rN]) ((Concat_run hC hC.slices_Concat_byte_byte (hi := s7.next) (ls := [beB 4 o.toNat, beB 4 g.toNat, [UInt8.ofNat fo.toNat, UInt8.ofNat fg.toNat, UInt8.ofNat fa.toNat, if b then 1 else 0]]) (Nat.le_refl _) (g3.wide (by omega)) rfl ?_ (by simp [beB_length]) (by simp)).mono ?_)
  · intro i x l hx hl
    match i, hx, hl with
    | 0, hx, hl => cases hx; cases hl; exact (hg1.low l27 (Nat.le_refl _)).sl
    | 1, hx, hl => cases hx; cases hl; exact (hg2.low l37 (Nat.le_refl _)).sl
    | 2, hx, hl => cases hx; cases hl; exact (g1.low g4 (Nat.le_refl _)).wide (by omega)
    | n + 3, hx, hl => cases hx
  rintro x s8 ⟨g5, g6⟩
  refine Wo_all (by simp only [sims, rI, rN]; rfl) (W_ret ⟨rfl, _, res_tmp (res_tmp res_nil), .inl ⟨hok, x, by simp only [sims, rI, rN, tupled], ?_, ?_⟩⟩)
  · have hle : s.next ≤ s7.next := Nat.le_trans hb4.low.2.1 l57.2.1
    have e : [beB 4 o.toNat, beB 4 g.toNat, [UInt8.ofNat fo.toNat, UInt8.ofNat fg.toNat, UInt8.ofNat fa.toNat, if b then 1 else 0]].flatten = bytesR o g fo fg fa b := by
      simp [bytesR]
    rw [e] at g5
    exact g5.weak hle
  · exact (hb4.low.trans (l57.weak hb4.low.2.1)).trans (g6.weak (Nat.le_trans hb4.low.2.1 l57.2.1))
end
end
end Go.Ev
