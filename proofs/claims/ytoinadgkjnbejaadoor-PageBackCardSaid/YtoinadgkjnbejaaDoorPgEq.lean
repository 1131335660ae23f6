/-
  Documents are the same: as the program sees it; Valid, Format.
-/
import Derived.Test.YtoinadgkjnbejaaDoorPgFormat
set_option linter.unusedVariables false
set_option linter.unusedSimpArgs false
namespace Go.Ev
noncomputable section
open Go.Pg
section
variable {E : Env} {f : FuncId} {s t u : St}
set_option maxHeartbeats 2000000 in
theorem Equal_run (hf : Has E f Code.slices_Equal_string_string) {hi : Nat} {v w : Value} {xs ys : List Ln} (hv : Texts s hi v xs) (hw : Texts s hi w ys) (hx : xs.length ≤ 1000000) : Cv E f [v, w] s fun r t => t = s ∧ r = .bool (decide (xs = ys)) := by
  obtain ⟨p, n, c, rfl, hn⟩ := hv.parts
  obtain ⟨q, m, d, rfl, hm⟩ := hw.parts
  rw [List.length_map, Nat.mul_one] at hn hm
  subst hn hm
  refine Cv_of hf.code ?_
  have h0 : (Tr.ofList (.e : Fr) 0 [.slice p xs.length c, .slice q ys.length d]).get 0 = some (.slice p xs.length c) := rfl
  have h1 : (Tr.ofList (.e : Fr) 0 [.slice p xs.length c, .slice q ys.length d]).get 1 = some (.slice q ys.length d) := rfl
  generalize (Tr.ofList (.e : Fr) 0 [.slice p xs.length c, .slice q ys.length d]) = fr0 at h0 h1
  unfold Code.slices_Equal_string_string
  refine W_seq (W_region (by simp only [simq, Int.reduceEq, Nat.reduceEqDiff]; rfl) ?_)
  by_cases hl : xs.length = ys.length
  case neg =>
    have d1 : decide (((xs.length : Nat) : Int) = ((ys.length : Nat) : Int)) = false := by simp; omega
    refine W_seq (W_seq (W_region (by simp only [simq, Int.reduceEq, Nat.reduceEqDiff, h0, h1, Int.ofNat_eq_natCast, d1]; rfl) (W_then (by simp only [simq, Int.reduceEq, Nat.reduceEqDiff]) ?_)))
    refine W_seq (W_region (by simp only [simq, Int.reduceEq, Nat.reduceEqDiff]; rfl) (W_ret ⟨rfl, _, res_tmp res_nil, rfl, ?_⟩))
    have d2 : decide (xs = ys) = false := decide_eq_false fun e => hl (by rw [e])
    simp only [simq, Int.reduceEq, Nat.reduceEqDiff, tupled, d2]; try rfl
  have d1 : decide (((xs.length : Nat) : Int) = ((ys.length : Nat) : Int)) = true := by simp; omega
  refine W_seq (W_seq (W_region (by simp only [simq, Int.reduceEq, Nat.reduceEqDiff, h0, h1, Int.ofNat_eq_natCast, d1]; rfl) (W_else (by simp only [simq, Int.reduceEq, Nat.reduceEqDiff]) (W_skip ?_))))
  show W E _ _ _ _
  refine W_seq (W_seq (W_region (by simp only [simq, Int.reduceEq, Nat.reduceEqDiff, h0]; rfl) (W_block ?_)))
  unfold Code.slices_Equal_string_string_l0
  refine W_for (n := xs.length) (fun i fr t => t = s ∧ fr.get 0 = some (.slice p xs.length c) ∧ fr.get 1 = some (.slice q ys.length d) ∧ xs.take i = ys.take i) (by omega) (by decide) ?_ ?_ ?_ 0 (Nat.zero_le _) ⟨rfl, by simp only [simq, Int.reduceEq, Nat.reduceEqDiff, h0], by simp only [simq, Int.reduceEq, Nat.reduceEqDiff, h1], rfl⟩ (by simp only [simq, Int.reduceEq, Nat.reduceEqDiff]; rfl) (by simp only [simq, Int.reduceEq, Nat.reduceEqDiff]; rfl)
  · rintro i fr t x v hx ⟨e0, e1, e2, e3⟩
    refine ⟨e0, ?_, ?_, e3⟩ <;> rcases hx with rfl | rfl | rfl <;> simp only [simq, Int.reduceEq, Nat.reduceEqDiff, e1, e2]
  · rintro i fr t hlt ⟨ht, k0, k1, htk⟩ k13 k12
    rw [ht]; clear ht t
    obtain ⟨a, rfl, hca⟩ := Sl.cell hv (i := i) (by rw [List.length_map]; omega)
    obtain ⟨b, rfl, hcb⟩ := Sl.cell hw (i := i) (by rw [List.length_map]; omega)
    have hi2 : i < ys.length := by omega
    rw [List.getElem?_map, List.getElem?_eq_getElem hlt, Option.map_some] at hca
    rw [List.getElem?_map, List.getElem?_eq_getElem hi2, Option.map_some] at hcb
    have t1 : xs.take (i + 1) = xs.take i ++ [xs[i]] := List.take_succ_eq_append_getElem hlt
    have t2 : ys.take (i + 1) = ys.take i ++ [ys[i]] := List.take_succ_eq_append_getElem hi2
    have g1 : xs[i]? = some xs[i] := List.getElem?_eq_getElem hlt
    have g2 : ys[i]? = some ys[i] := List.getElem?_eq_getElem hi2
    generalize xs[i] = x at *
    generalize ys[i] = y at *
    have hb1 : Nat.blt i xs.length = true := by rw [Nat.blt_eq]; exact hlt
    have hb2 : Nat.blt i ys.length = true := by rw [Nat.blt_eq]; exact hi2
    refine W_seq (W_region (by simp only [simq, Int.reduceEq, Nat.reduceEqDiff, k13]; rfl) ?_)
    by_cases hxy : x = y
    case neg =>
      have d2 : decide (x = y) = false := decide_eq_false hxy
      refine W_seq (W_region (by simp only [simq, Int.reduceEq, Nat.reduceEqDiff, k0, k1, k13, hb1, hb2, hca, hcb, d2]; rfl) (W_then (by simp only [simq, Int.reduceEq, Nat.reduceEqDiff]) ?_))
      refine W_seq (W_region (by simp only [simq, Int.reduceEq, Nat.reduceEqDiff]; rfl) (W_ret ⟨rfl, _, res_tmp res_nil, rfl, ?_⟩))
      have d2 : decide (xs = ys) = false := decide_eq_false fun e => by
        subst e
        rw [g1] at g2
        exact hxy (Option.some.inj g2)
      simp only [simq, Int.reduceEq, Nat.reduceEqDiff, tupled, d2]; try rfl
    subst hxy
    have d2 : decide (x = x) = true := decide_eq_true rfl
    refine W_seq (W_region (by simp only [simq, Int.reduceEq, Nat.reduceEqDiff, k0, k1, k13, hb1, hb2, hca, hcb, d2]; rfl) (W_else (by simp only [simq, Int.reduceEq, Nat.reduceEqDiff]) (W_skip ?_)))
    exact ⟨⟨rfl, by simp only [simq, Int.reduceEq, Nat.reduceEqDiff, k0], by simp only [simq, Int.reduceEq, Nat.reduceEqDiff, k1], by rw [t1, t2, htk]⟩, by simp only [simq, Int.reduceEq, Nat.reduceEqDiff, k13], by simp only [simq, Int.reduceEq, Nat.reduceEqDiff, k12]⟩
  · rintro fr t ⟨ht, k0, k1, htk⟩
    rw [ht]; clear ht t
    show W E _ _ _ _
    refine W_seq (W_region (by simp only [simq, Int.reduceEq, Nat.reduceEqDiff]; rfl) (W_ret ⟨rfl, _, res_tmp res_nil, rfl, ?_⟩))
    rw [List.take_length, hl, List.take_length] at htk
    have d2 : decide (xs = ys) = true := decide_eq_true htk
    simp only [simq, Int.reduceEq, Nat.reduceEqDiff, tupled, d2]; try rfl
set_option maxHeartbeats 2000000 in
theorem EqualFunc_run (hC : Codes E) (hf : Has E f Code.slices_EqualFunc_string_string_string_string) {hi : Nat} {v w : Value} {xs ys : List (List Ln)} (hv : Lists s hi v xs) (hw : Lists s hi w ys) (hx : xs.length ≤ 1000000) (hxx : ∀ p ∈ xs, p.length ≤ 1000000) : Cv E f [v, w, .func (.func 53) ⟨[]⟩ ⟨[]⟩] s fun r t => t = s ∧ r = .bool (decide (xs = ys)) := by
  obtain ⟨p, c, rfl⟩ := hv.parts
  obtain ⟨q, d, rfl⟩ := hw.parts
  refine Cv_of hf.code ?_
  have h0 : (Tr.ofList (.e : Fr) 0 [.slice p xs.length c, .slice q ys.length d, .func (.func 53) ⟨[]⟩ ⟨[]⟩]).get 0 = some (.slice p xs.length c) := rfl
  have h1 : (Tr.ofList (.e : Fr) 0 [.slice p xs.length c, .slice q ys.length d, .func (.func 53) ⟨[]⟩ ⟨[]⟩]).get 1 = some (.slice q ys.length d) := rfl
  have h2 : (Tr.ofList (.e : Fr) 0 [.slice p xs.length c, .slice q ys.length d, .func (.func 53) ⟨[]⟩ ⟨[]⟩]).get 2 = some (.func (.func 53) ⟨[]⟩ ⟨[]⟩) := rfl
  generalize (Tr.ofList (.e : Fr) 0 [.slice p xs.length c, .slice q ys.length d, .func (.func 53) ⟨[]⟩ ⟨[]⟩]) = fr0 at h0 h1 h2
  unfold Code.slices_EqualFunc_string_string_string_string
  refine W_seq (W_region (by simp only [simq, Int.reduceEq, Nat.reduceEqDiff]; rfl) ?_)
  by_cases hl : xs.length = ys.length
  case neg =>
    have d1 : decide (((xs.length : Nat) : Int) = ((ys.length : Nat) : Int)) = false := by simp; omega
    refine W_seq (W_seq (W_region (by simp only [simq, Int.reduceEq, Nat.reduceEqDiff, h0, h1, Int.ofNat_eq_natCast, d1]; rfl) (W_then (by simp only [simq, Int.reduceEq, Nat.reduceEqDiff]) ?_)))
    refine W_seq (W_region (by simp only [simq, Int.reduceEq, Nat.reduceEqDiff]; rfl) (W_ret ⟨rfl, _, res_tmp res_nil, rfl, ?_⟩))
    have d2 : decide (xs = ys) = false := decide_eq_false fun e => hl (by rw [e])
    simp only [simq, Int.reduceEq, Nat.reduceEqDiff, tupled, d2]; try rfl
  have d1 : decide (((xs.length : Nat) : Int) = ((ys.length : Nat) : Int)) = true := by simp; omega
  refine W_seq (W_seq (W_region (by simp only [simq, Int.reduceEq, Nat.reduceEqDiff, h0, h1, Int.ofNat_eq_natCast, d1]; rfl) (W_else (by simp only [simq, Int.reduceEq, Nat.reduceEqDiff]) (W_skip ?_))))
  show W E _ _ _ _
  refine W_seq (W_seq (W_region (by simp only [simq, Int.reduceEq, Nat.reduceEqDiff, h0]; rfl) (W_block ?_)))
  unfold Code.slices_EqualFunc_string_string_string_string_l0
  refine W_for (n := xs.length) (fun i fr t => t = s ∧ fr.get 15 = some (.slice p xs.length c) ∧ fr.get 1 = some (.slice q ys.length d) ∧ fr.get 2 = some (.func (.func 53) ⟨[]⟩ ⟨[]⟩) ∧ xs.take i = ys.take i) (by omega) (by decide) ?_ ?_ ?_ 0 (Nat.zero_le _) ⟨rfl, by simp only [simq, Int.reduceEq, Nat.reduceEqDiff], by simp only [simq, Int.reduceEq, Nat.reduceEqDiff, h1], by simp only [simq, Int.reduceEq, Nat.reduceEqDiff, h2], rfl⟩ (by simp only [simq, Int.reduceEq, Nat.reduceEqDiff]; rfl) (by simp only [simq, Int.reduceEq, Nat.reduceEqDiff]; rfl)
  · rintro i fr t x v hx ⟨e0, e1, e2, e4, e3⟩
    refine ⟨e0, ?_, ?_, ?_, e3⟩ <;> rcases hx with rfl | rfl | rfl <;> simp only [simq, Int.reduceEq, Nat.reduceEqDiff, e1, e2, e4]
  · rintro i fr t hlt ⟨ht, k15, k1, k2, htk⟩ k17 k16
    rw [ht]; clear ht t
    have hi2 : i < ys.length := by omega
    obtain ⟨a, w', rfl, hca, ha⟩ := hv.at.2 i hlt
    obtain ⟨b, z', rfl, hcb, hb⟩ := hw.at.2 i hi2
    have hgl := hxx _ (List.getElem_mem hlt)
    have t1 : xs.take (i + 1) = xs.take i ++ [xs[i]] := List.take_succ_eq_append_getElem hlt
    have t2 : ys.take (i + 1) = ys.take i ++ [ys[i]] := List.take_succ_eq_append_getElem hi2
    have g1 : xs[i]? = some xs[i] := List.getElem?_eq_getElem hlt
    have g2 : ys[i]? = some ys[i] := List.getElem?_eq_getElem hi2
    generalize xs[i] = x at *
    generalize ys[i] = y at *
    have hb1 : Nat.blt i xs.length = true := by rw [Nat.blt_eq]; exact hlt
    have hb2 : Nat.blt i ys.length = true := by rw [Nat.blt_eq]; exact hi2
    refine W_seq (W_region (by simp only [simq, Int.reduceEq, Nat.reduceEqDiff, k15, k17, hb1, hca]; rfl) ?_)
    refine W_seq (W_region (by simp only [simq, Int.reduceEq, Nat.reduceEqDiff, k1, hb2, hcb]; rfl) ?_)
    refine W_seq (W_opsM (Wo_run (by simp only [simq, Int.reduceEq, Nat.reduceEqDiff, k2]; rfl) (Wo_callV (args := [w', z']) hC.slices_Equal_string_string.prim (by simp only [simq, Int.reduceEq, Nat.reduceEqDiff]; rfl) (by simp only [simq, Int.reduceEq, Nat.reduceEqDiff]; rfl) ((Equal_run hC.slices_Equal_string_string (s := s) ha hb hgl).mono ?_))))
    rintro _ t2 ⟨ht2, rfl⟩
    rw [ht2]
    clear ht2
    by_cases hxy : x = y
    case neg =>
      have d2 : decide (x = y) = false := decide_eq_false hxy
      refine Wo_all (by simp only [simq, Int.reduceEq, Nat.reduceEqDiff, d2]; rfl) (W_then (by simp only [simq, Int.reduceEq, Nat.reduceEqDiff]) ?_)
      refine W_seq (W_region (by simp only [simq, Int.reduceEq, Nat.reduceEqDiff]; rfl) (W_ret ⟨rfl, _, res_tmp res_nil, rfl, ?_⟩))
      have d2 : decide (xs = ys) = false := decide_eq_false fun e => by
        subst e
        rw [g1] at g2
        exact hxy (Option.some.inj g2)
      simp only [simq, Int.reduceEq, Nat.reduceEqDiff, tupled, d2]; try rfl
    subst hxy
    have d2 : decide (x = x) = true := decide_eq_true rfl
    refine Wo_all (by simp only [simq, Int.reduceEq, Nat.reduceEqDiff, d2]; rfl) (W_else (by simp only [simq, Int.reduceEq, Nat.reduceEqDiff]) (W_skip ?_))
    exact ⟨⟨rfl, by simp only [simq, Int.reduceEq, Nat.reduceEqDiff, k15], by simp only [simq, Int.reduceEq, Nat.reduceEqDiff, k1], by simp only [simq, Int.reduceEq, Nat.reduceEqDiff, k2], by rw [t1, t2, htk]⟩, by simp only [simq, Int.reduceEq, Nat.reduceEqDiff, k17], by simp only [simq, Int.reduceEq, Nat.reduceEqDiff, k16]⟩
  · rintro fr t ⟨ht, k0, k1, k2, htk⟩
    rw [ht]; clear ht t
    show W E _ _ _ _
    refine W_seq (W_region (by simp only [simq, Int.reduceEq, Nat.reduceEqDiff]; rfl) (W_ret ⟨rfl, _, res_tmp res_nil, rfl, ?_⟩))
    rw [List.take_length, hl, List.take_length] at htk
    have d2 : decide (xs = ys) = true := decide_eq_true htk
    simp only [simq, Int.reduceEq, Nat.reduceEqDiff, tupled, d2]; try rfl
theorem doc_dec (x y : Doc) : decide (x = y) = (decide (x.title = y.title) && (decide (x.header = y.header) && decide (x.prologue = y.prologue) && decide (x.trailer = y.trailer)) && decide (x.pages = y.pages)) := by
  rw [Bool.eq_iff_iff]
  simp only [Bool.and_eq_true, decide_eq_true_eq]
  constructor
  · rintro rfl; exact ⟨⟨rfl, ⟨⟨rfl, rfl⟩, rfl⟩⟩, rfl⟩
  · rintro ⟨⟨h1, ⟨h2, h3⟩, h4⟩, h5⟩
    cases x; cases y
    simp only at *
    simp only [h1, h2, h3, h4, h5]
set_option maxHeartbeats 8000000 in
theorem PSame_run (hC : Codes E) (hf : Has E f Code.page_Same) {hi : Nat} {cs ds : List Value} {x y : Doc} (hx : DocV s hi cs x) (hy : DocV s hi ds y) (hhi : hi ≤ s.next) (mx : Mild x) : Cv E f [.agg ⟨cs⟩, .agg ⟨ds⟩] s fun r t => r = .bool (decide (x = y)) ∧ Low s.next s t := by
  obtain ⟨h, p, g, tr, rfl, dh, dp, dg, dt⟩ := hx
  obtain ⟨h', p', g', tr', rfl, eh, ep, eg, et⟩ := hy
  refine Cv_of hf.code ?_
  have h0 : (Tr.ofList (.e : Fr) 0 [.agg ⟨[strOf x.title, h, p, g, tr]⟩, .agg ⟨[strOf y.title, h', p', g', tr']⟩]).get 0 = some (.agg ⟨[strOf x.title, h, p, g, tr]⟩) := rfl
  have h1 : (Tr.ofList (.e : Fr) 0 [.agg ⟨[strOf x.title, h, p, g, tr]⟩, .agg ⟨[strOf y.title, h', p', g', tr']⟩]).get 1 = some (.agg ⟨[strOf y.title, h', p', g', tr']⟩) := rfl
  generalize (Tr.ofList (.e : Fr) 0 [.agg ⟨[strOf x.title, h, p, g, tr]⟩, .agg ⟨[strOf y.title, h', p', g', tr']⟩]) = fr0 at h0 h1
  unfold Code.page_Same
  refine W_seq (W_ops (Wo_box (lo := s.next) (s0 := s) (z := [strOf x.title, h, p, g, tr]) (by simp only [simq, Int.reduceEq, Nat.reduceEqDiff, h0]; rfl) rfl rfl ((Low.self s).skip 3) (Nat.le_add_right _ _) (by rw [next_skip]; omega) fun s1 B1 n1 _ => ?_))
  refine Wo_box (lo := s.next) (s0 := s) (z := [strOf y.title, h', p', g', tr']) (by simp only [simq, Int.reduceEq, Nat.reduceEqDiff, h1]; rfl) rfl rfl B1.low (by omega) (by rw [n1, next_skip]; omega) fun s2 B2 n2 f2 => ?_
  refine Wo_all (by simp only [simq, Int.reduceEq, Nat.reduceEqDiff]; rfl) ?_
  show W E _ _ _ _
  rw [next_skip] at n1
  have L2 : Low s.next s s2 := B2.low
  have RB : Row s2 s.next [strOf x.title, h, p, g, tr] := by
    obtain ⟨es, e⟩ := B1.at_
    rw [Nat.add_zero] at e
    exact ⟨es, by rw [f2 _ (by omega)]; exact e⟩
  have RD : Row s2 (s.next + 1) [strOf y.title, h', p', g', tr'] := B2.own
  have a0 : s2.cell ⟨s.next, 0, none⟩ = some (strOf x.title) := RB.cell 0
  have a1 : s2.cell ⟨s.next, 1, none⟩ = some h := RB.cell 1
  have a2 : s2.cell ⟨s.next, 2, none⟩ = some p := RB.cell 2
  have a3 : s2.cell ⟨s.next, 3, none⟩ = some g := RB.cell 3
  have a4 : s2.cell ⟨s.next, 4, none⟩ = some tr := RB.cell 4
  have b0 : s2.cell ⟨s.next + 1, 0, none⟩ = some (strOf y.title) := RD.cell 0
  have b1 : s2.cell ⟨s.next + 1, 1, none⟩ = some h' := RD.cell 1
  have b2 : s2.cell ⟨s.next + 1, 2, none⟩ = some p' := RD.cell 2
  have b3 : s2.cell ⟨s.next + 1, 3, none⟩ = some g' := RD.cell 3
  have b4 : s2.cell ⟨s.next + 1, 4, none⟩ = some tr' := RD.cell 4
  replace dh := dh.low L2 hhi
  replace dp := dp.low L2 hhi
  replace dg := dg.low L2 hhi
  replace dt := dt.low L2 hhi
  replace eh := eh.low L2 hhi
  replace ep := ep.low L2 hhi
  replace eg := eg.low L2 hhi
  replace et := et.low L2 hhi
  have hxy := doc_dec x y
  refine W_gen (T := [(2, ptr s.next 0), (3, ptr (s.next + 1) 0)]) (all_cons (by simp only [simq, Int.reduceEq, Nat.reduceEqDiff]) (all_cons (by simp only [simq, Int.reduceEq, Nat.reduceEqDiff]) all_nil)) fun fr2 gf => ?_
  have k2 := gf _ (.head _)
  have k3 := gf _ (.tail _ (.head _))
  simp only at k2 k3
  clear gf h0 h1
  refine W_seq (W.mono (Q := fun e fr' t' => e = .normal ∧ t' = s2 ∧ fr'.get 2 = some (ptr s.next 0) ∧ fr'.get 3 = some (ptr (s.next + 1) 0) ∧ fr'.get 5 = some (.bool (decide (x.header = y.header) && decide (x.prologue = y.prologue) && decide (x.trailer = y.trailer)))) ?_ ?_)
  · refine W_opsM (Wo_run (by simp only [simq, Int.reduceEq, Nat.reduceEqDiff, k2, k3, a1, b1]; rfl) (Wo_call hC.slices_Equal_string_string.prim (args := [h, h']) (by simp only [simq, Int.reduceEq, Nat.reduceEqDiff]; try rfl) ((Equal_run hC.slices_Equal_string_string dh eh mx.h).mono ?_)))
    rintro _ _ ⟨rfl, rfl⟩
    cases d3 : decide (x.header = y.header) with
    | false => exact Wo_all (by simp only [simq, Int.reduceEq, Nat.reduceEqDiff, k2, k3, d3]; rfl) ⟨rfl, rfl, by simp only [simq, Int.reduceEq, Nat.reduceEqDiff, k2], by simp only [simq, Int.reduceEq, Nat.reduceEqDiff, k3], by simp only [simq, Int.reduceEq, Nat.reduceEqDiff]; rfl⟩
    | true =>
    refine Wo_run (by simp only [simq, Int.reduceEq, Nat.reduceEqDiff, k2, k3, a2, b2, d3]; rfl) (Wo_gt (by simp only [simq, Int.reduceEq, Nat.reduceEqDiff]) (Wo_call hC.slices_Equal_string_string.prim (args := [p, p']) (by simp only [simq, Int.reduceEq, Nat.reduceEqDiff]; try rfl) ((Equal_run hC.slices_Equal_string_string dp ep mx.p).mono ?_)))
    rintro _ _ ⟨rfl, rfl⟩
    cases d4 : decide (x.prologue = y.prologue) with
    | false => exact Wo_all (by simp only [simq, Int.reduceEq, Nat.reduceEqDiff, k2, k3, d4]; rfl) ⟨rfl, rfl, by simp only [simq, Int.reduceEq, Nat.reduceEqDiff, k2], by simp only [simq, Int.reduceEq, Nat.reduceEqDiff, k3], by simp only [simq, Int.reduceEq, Nat.reduceEqDiff]; rfl⟩
    | true =>
    refine Wo_run (by simp only [simq, Int.reduceEq, Nat.reduceEqDiff, k2, k3, a4, b4, d4]; rfl) (Wo_gt (by simp only [simq, Int.reduceEq, Nat.reduceEqDiff]) (Wo_call hC.slices_Equal_string_string.prim (args := [tr, tr']) (by simp only [simq, Int.reduceEq, Nat.reduceEqDiff]; try rfl) ((Equal_run hC.slices_Equal_string_string dt et mx.t).mono ?_)))
    rintro _ _ ⟨rfl, rfl⟩
    cases d5 : decide (x.trailer = y.trailer) with
    | false => exact Wo_all (by simp only [simq, Int.reduceEq, Nat.reduceEqDiff, k2, k3, d5]; rfl) ⟨rfl, rfl, by simp only [simq, Int.reduceEq, Nat.reduceEqDiff, k2], by simp only [simq, Int.reduceEq, Nat.reduceEqDiff, k3], by simp only [simq, Int.reduceEq, Nat.reduceEqDiff]; rfl⟩
    | true => exact Wo_all (by simp only [simq, Int.reduceEq, Nat.reduceEqDiff, k2, k3, d5]; rfl) ⟨rfl, rfl, by simp only [simq, Int.reduceEq, Nat.reduceEqDiff, k2], by simp only [simq, Int.reduceEq, Nat.reduceEqDiff, k3], by simp only [simq, Int.reduceEq, Nat.reduceEqDiff]; rfl⟩
  rintro _ fr3 t3 ⟨rfl, e3, q2, q3, k5⟩
  subst t3
  show W E _ fr3 _ _
  generalize (decide (x.header = y.header) && decide (x.prologue = y.prologue) && decide (x.trailer = y.trailer)) = lists at hxy k5
  cases d1 : decide (x.title = y.title) with
  | false =>
    rw [d1] at hxy
    refine W_seq (W_opsM (Wo_all (by simp only [simq, Int.reduceEq, Nat.reduceEqDiff, q2, q3, a0, b0, d1]; rfl) ?_))
    refine W_ret ⟨rfl, _, res_tmp res_nil, ?_, L2⟩
    rw [hxy]
    simp only [simq, Int.reduceEq, Nat.reduceEqDiff, tupled]; rfl
  | true =>
    rw [d1] at hxy
    cases lists with
    | false =>
      refine W_seq (W_opsM (Wo_all (by simp only [simq, Int.reduceEq, Nat.reduceEqDiff, q2, q3, k5, a0, b0, d1]; rfl) ?_))
      refine W_ret ⟨rfl, _, res_tmp res_nil, ?_, L2⟩
      rw [hxy]
      simp only [simq, Int.reduceEq, Nat.reduceEqDiff, tupled]; rfl
    | true =>
      refine W_seq (W_opsM (Wo_run (by simp only [simq, Int.reduceEq, Nat.reduceEqDiff, q2, q3, k5, a0, b0, a3, b3, d1]; rfl) (Wo_gt (by simp only [simq, Int.reduceEq, Nat.reduceEqDiff]) (Wo_call hC.slices_EqualFunc_string_string_string_string.prim (args := [g, g', .func (.func 53) ⟨[]⟩ ⟨[]⟩]) (by simp only [simq, Int.reduceEq, Nat.reduceEqDiff]; try rfl) ((EqualFunc_run hC hC.slices_EqualFunc_string_string_string_string dg eg mx.g mx.gp).mono ?_)))))
      rintro _ _ ⟨rfl, rfl⟩
      refine Wo_all (by simp only [simq, Int.reduceEq, Nat.reduceEqDiff]; rfl) ?_
      show W E _ _ _ _
      refine W_ret ⟨rfl, _, res_tmp res_nil, ?_, L2⟩
      rw [hxy]
      simp only [simq, Int.reduceEq, Nat.reduceEqDiff, tupled]; rfl
end
end
end Go.Ev
