/-
  Documents are the same: the document's own comparison.
-/
import Derived.Test.YtoinadgkjnbejaaDoorPgLines
import Derived.Test.YtoinadgkjnbejaaDoorPgApp
set_option linter.unusedVariables false
set_option linter.unusedSimpArgs false
deriving instance DecidableEq for Go.Pg.Doc
namespace Go.Ev
noncomputable section
open Go.Pg
section
variable {E : Env} {f : FuncId} {s t u : St}
theorem Lists.at {s : St} {hi : Nat} {p : Option Addr} {n c : Nat} {ls : List (List Ln)} (h : Lists s hi (.slice p n c) ls) : n = ls.length ∧ ∀ i (hi' : i < ls.length), ∃ a w, p = some a ∧ s.cell (a.add i) = some w ∧ Texts s hi w ls[i] := by
  obtain ⟨vs, v1, v2, v3⟩ := h
  obtain ⟨q, m, d, e, hm⟩ := v1.parts
  cases e
  refine ⟨by omega, fun i hi' => ?_⟩
  obtain ⟨a, rfl, hc⟩ := v1.cell (i := i) (by omega)
  have hiv : i < vs.length := by omega
  rw [List.getElem?_eq_getElem hiv] at hc
  exact ⟨a, _, rfl, hc, v3 i _ _ (List.getElem?_eq_getElem hiv) (List.getElem?_eq_getElem hi')⟩
theorem Lists.parts {s : St} {hi : Nat} {v : Value} {ls : List (List Ln)} (h : Lists s hi v ls) : ∃ p c, v = .slice p ls.length c := by
  obtain ⟨vs, v1, v2, v3⟩ := h
  obtain ⟨q, m, d, rfl, hm⟩ := v1.parts
  have : m = ls.length := by omega
  subst this
  exact ⟨_, _, rfl⟩
structure Mild (d : Doc) : Prop where
  h : d.header.length ≤ 1000000
  p : d.prologue.length ≤ 1000000
  g : d.pages.length ≤ 1000000
  gp : ∀ p ∈ d.pages, p.length ≤ 1000000
  t : d.trailer.length ≤ 1000000
set_option maxHeartbeats 8000000 in
theorem Same_run (hC : Codes E) (hf : Has E f Code.tithingref14_Same) {hi : Nat} {cs ds : List Value} {x y : Doc} (hx : DocV s hi cs x) (hy : DocV s hi ds y) (hhi : hi ≤ s.next) (mx : Mild x) : Cv E f [.agg ⟨cs⟩, .agg ⟨ds⟩] s fun r t => r = .bool (decide (x = y)) ∧ Low s.next s t := by
  obtain ⟨h, p, g, tr, rfl, dh, dp, dg, dt⟩ := hx
  obtain ⟨h', p', g', tr', rfl, eh, ep, eg, et⟩ := hy
  refine Cv_of hf.code ?_
  have h0 : (Tr.ofList (.e : Fr) 0 [.agg ⟨[strOf x.title, h, p, g, tr]⟩, .agg ⟨[strOf y.title, h', p', g', tr']⟩]).get 0 = some (.agg ⟨[strOf x.title, h, p, g, tr]⟩) := rfl
  have h1 : (Tr.ofList (.e : Fr) 0 [.agg ⟨[strOf x.title, h, p, g, tr]⟩, .agg ⟨[strOf y.title, h', p', g', tr']⟩]).get 1 = some (.agg ⟨[strOf y.title, h', p', g', tr']⟩) := rfl
  generalize (Tr.ofList (.e : Fr) 0 [.agg ⟨[strOf x.title, h, p, g, tr]⟩, .agg ⟨[strOf y.title, h', p', g', tr']⟩]) = fr0 at h0 h1
  unfold Code.tithingref14_Same
  refine W_seq (W_ops (Wo_box (lo := s.next) (s0 := s) (z := [strOf x.title, h, p, g, tr]) (by simp only [simq, Int.reduceEq, Nat.reduceEqDiff, h0]; rfl) rfl rfl ((Low.self s).skip 3) (Nat.le_add_right _ _) (by rw [next_skip]; omega) fun s1 B1 n1 _ => ?_))
  refine Wo_box (lo := s.next) (s0 := s) (z := [strOf y.title, h', p', g', tr']) (by simp only [simq, Int.reduceEq, Nat.reduceEqDiff, h1]; rfl) rfl rfl B1.low (by omega) (by rw [n1, next_skip]; omega) fun s2 B2 n2 f2 => ?_
  refine Wo_all (by simp only [simq, Int.reduceEq, Nat.reduceEqDiff]; rfl) ?_
  show W E _ _ _ _
  rw [next_skip] at n1
  have L2 : Low s.next s s2 := B2.low
  have RB : Row s2 s.next [strOf x.title, h, p, g, tr] := by
    obtain ⟨es, e⟩ := B1.at_
    rw [Nat.add_zero] at e
    exact ⟨es, by rw [f2 _ (by omega)]; exact e⟩
  have RD : Row s2 (s.next + 1) [strOf y.title, h', p', g', tr'] := B2.own
  have a0 : s2.cell ⟨s.next, 0, none⟩ = some (strOf x.title) := RB.cell 0
  have a1 : s2.cell ⟨s.next, 1, none⟩ = some h := RB.cell 1
  have a2 : s2.cell ⟨s.next, 2, none⟩ = some p := RB.cell 2
  have a3 : s2.cell ⟨s.next, 3, none⟩ = some g := RB.cell 3
  have a4 : s2.cell ⟨s.next, 4, none⟩ = some tr := RB.cell 4
  have b0 : s2.cell ⟨s.next + 1, 0, none⟩ = some (strOf y.title) := RD.cell 0
  have b1 : s2.cell ⟨s.next + 1, 1, none⟩ = some h' := RD.cell 1
  have b2 : s2.cell ⟨s.next + 1, 2, none⟩ = some p' := RD.cell 2
  have b3 : s2.cell ⟨s.next + 1, 3, none⟩ = some g' := RD.cell 3
  have b4 : s2.cell ⟨s.next + 1, 4, none⟩ = some tr' := RD.cell 4
  replace dh := dh.low L2 hhi
  replace dp := dp.low L2 hhi
  replace dg := dg.low L2 hhi
  replace dt := dt.low L2 hhi
  replace eh := eh.low L2 hhi
  replace ep := ep.low L2 hhi
  replace eg := eg.low L2 hhi
  replace et := et.low L2 hhi
  obtain ⟨gp, gc, rfl⟩ := dg.parts
  obtain ⟨gq, gd, rfl⟩ := eg.parts
  have hxy : decide (x = y) = (decide (x.title = y.title) && decide (x.pages.length = y.pages.length) && decide (x.header = y.header) && decide (x.prologue = y.prologue) && decide (x.trailer = y.trailer) && decide (x.pages = y.pages)) := by
    rw [Bool.eq_iff_iff]
    simp only [Bool.and_eq_true, decide_eq_true_eq]
    constructor
    · rintro rfl; exact ⟨⟨⟨⟨⟨rfl, rfl⟩, rfl⟩, rfl⟩, rfl⟩, rfl⟩
    · rintro ⟨⟨⟨⟨⟨h1, h2⟩, h3⟩, h4⟩, h5⟩, h6⟩
      cases x; cases y
      simp only at *
      simp only [h1, h3, h4, h5, h6]
  refine W_gen (T := [(2, ptr s.next 0), (3, ptr (s.next + 1) 0)]) (all_cons (by simp only [simq, Int.reduceEq, Nat.reduceEqDiff]) (all_cons (by simp only [simq, Int.reduceEq, Nat.reduceEqDiff]) all_nil)) fun fr2 gf => ?_
  have k2 := gf _ (.head _)
  have k3 := gf _ (.tail _ (.head _))
  simp only at k2 k3
  clear gf h0 h1
  refine W_seq (W_seq (W.mono (Q := fun e fr' t' => e = .normal ∧ t' = s2 ∧ fr'.get 2 = some (ptr s.next 0) ∧ fr'.get 3 = some (ptr (s.next + 1) 0) ∧ fr'.get 43 = some (.bool (!(decide (x.title = y.title) && decide (x.pages.length = y.pages.length) && decide (x.header = y.header) && decide (x.prologue = y.prologue) && decide (x.trailer = y.trailer))))) ?_ ?_))
  · have pl : decide (((x.pages.length : Nat) : Int) = ((y.pages.length : Nat) : Int)) = decide (x.pages.length = y.pages.length) := by
      rw [decide_eq_decide]; omega
    cases d1 : decide (x.title = y.title) with
    | false => exact W_opsM (Wo_all (by simp only [simq, Int.reduceEq, Nat.reduceEqDiff, k2, k3, a0, b0, d1]; rfl) ⟨rfl, rfl, by simp only [simq, Int.reduceEq, Nat.reduceEqDiff, k2], by simp only [simq, Int.reduceEq, Nat.reduceEqDiff, k3], by simp only [simq, Int.reduceEq, Nat.reduceEqDiff]; rfl⟩)
    | true =>
    cases d2 : decide (x.pages.length = y.pages.length) with
    | false => exact W_opsM (Wo_all (by simp only [simq, Int.reduceEq, Nat.reduceEqDiff, k2, k3, a0, b0, a3, b3, Int.ofNat_eq_natCast, pl, d1, d2]; rfl) ⟨rfl, rfl, by simp only [simq, Int.reduceEq, Nat.reduceEqDiff, k2], by simp only [simq, Int.reduceEq, Nat.reduceEqDiff, k3], by simp only [simq, Int.reduceEq, Nat.reduceEqDiff]; rfl⟩)
    | true =>
    refine W_opsM (Wo_run (by simp only [simq, Int.reduceEq, Nat.reduceEqDiff, k2, k3, a0, b0, a3, b3, a1, b1, Int.ofNat_eq_natCast, pl, d1, d2]; rfl) (Wo_gt (by simp only [simq, Int.reduceEq, Nat.reduceEqDiff]) (Wo_call hC.tithingref14_sameLines.prim (args := [h, h']) (by simp only [simq, Int.reduceEq, Nat.reduceEqDiff]; try rfl) ((sameLines_run hC.tithingref14_sameLines dh eh mx.h).mono ?_))))
    rintro _ _ ⟨rfl, rfl⟩
    cases d3 : decide (x.header = y.header) with
    | false => exact Wo_all (by simp only [simq, Int.reduceEq, Nat.reduceEqDiff, k2, k3, d3]; rfl) ⟨rfl, rfl, by simp only [simq, Int.reduceEq, Nat.reduceEqDiff, k2], by simp only [simq, Int.reduceEq, Nat.reduceEqDiff, k3], by simp only [simq, Int.reduceEq, Nat.reduceEqDiff]; rfl⟩
    | true =>
    refine Wo_run (by simp only [simq, Int.reduceEq, Nat.reduceEqDiff, k2, k3, a2, b2, d3]; rfl) (Wo_gt (by simp only [simq, Int.reduceEq, Nat.reduceEqDiff]) (Wo_call hC.tithingref14_sameLines.prim (args := [p, p']) (by simp only [simq, Int.reduceEq, Nat.reduceEqDiff]; try rfl) ((sameLines_run hC.tithingref14_sameLines dp ep mx.p).mono ?_)))
    rintro _ _ ⟨rfl, rfl⟩
    cases d4 : decide (x.prologue = y.prologue) with
    | false => exact Wo_all (by simp only [simq, Int.reduceEq, Nat.reduceEqDiff, k2, k3, d4]; rfl) ⟨rfl, rfl, by simp only [simq, Int.reduceEq, Nat.reduceEqDiff, k2], by simp only [simq, Int.reduceEq, Nat.reduceEqDiff, k3], by simp only [simq, Int.reduceEq, Nat.reduceEqDiff]; rfl⟩
    | true =>
    refine Wo_run (by simp only [simq, Int.reduceEq, Nat.reduceEqDiff, k2, k3, a4, b4, d4]; rfl) (Wo_gt (by simp only [simq, Int.reduceEq, Nat.reduceEqDiff]) (Wo_call hC.tithingref14_sameLines.prim (args := [tr, tr']) (by simp only [simq, Int.reduceEq, Nat.reduceEqDiff]; try rfl) ((sameLines_run hC.tithingref14_sameLines dt et mx.t).mono ?_)))
    rintro _ _ ⟨rfl, rfl⟩
    cases d5 : decide (x.trailer = y.trailer) with
    | false => exact Wo_all (by simp only [simq, Int.reduceEq, Nat.reduceEqDiff, k2, k3, d5]; rfl) ⟨rfl, rfl, by simp only [simq, Int.reduceEq, Nat.reduceEqDiff, k2], by simp only [simq, Int.reduceEq, Nat.reduceEqDiff, k3], by simp only [simq, Int.reduceEq, Nat.reduceEqDiff]; rfl⟩
    | true => exact Wo_all (by simp only [simq, Int.reduceEq, Nat.reduceEqDiff, k2, k3, d5]; rfl) ⟨rfl, rfl, by simp only [simq, Int.reduceEq, Nat.reduceEqDiff, k2], by simp only [simq, Int.reduceEq, Nat.reduceEqDiff, k3], by simp only [simq, Int.reduceEq, Nat.reduceEqDiff]; rfl⟩
  rintro _ fr3 t3 ⟨rfl, e3, q2, q3, k43⟩
  subst t3
  show W E _ fr3 _ _
  have hpl : (decide (x.title = y.title) && decide (x.pages.length = y.pages.length) && decide (x.header = y.header) && decide (x.prologue = y.prologue) && decide (x.trailer = y.trailer)) = true → x.pages.length = y.pages.length := by
    intro h
    simp only [Bool.and_eq_true, decide_eq_true_eq] at h
    exact h.1.1.1.2
  generalize (decide (x.title = y.title) && decide (x.pages.length = y.pages.length) && decide (x.header = y.header) && decide (x.prologue = y.prologue) && decide (x.trailer = y.trailer)) = first at hxy k43 hpl
  cases hfst : first with
  | false =>
    rw [hfst] at k43 hxy
    have k43 : fr3.get 43 = some (.bool true) := k43
    refine W_then (by simp only [simq, Int.reduceEq, Nat.reduceEqDiff, k43]) (W_seq (W_region (by simp only [simq, Int.reduceEq, Nat.reduceEqDiff]; rfl) (W_ret ⟨rfl, _, res_tmp res_nil, ?_, L2⟩)))
    rw [hxy]
    simp only [simq, Int.reduceEq, Nat.reduceEqDiff, tupled]; rfl
  | true =>
  rw [hfst] at k43 hxy
  have hpl := hpl hfst
  have k43 : fr3.get 43 = some (.bool false) := k43
  refine W_else (by simp only [simq, Int.reduceEq, Nat.reduceEqDiff, k43]) (W_skip ?_)
  show W E _ fr3 _ _
  refine W_seq (W_seq (W_region (by simp only [simq, Int.reduceEq, Nat.reduceEqDiff]; rfl) (W_block ?_)))
  refine W_inv (fun k fr t => ∃ i, k = x.pages.length - i ∧ i ≤ x.pages.length ∧ t = s2 ∧ fr.get 2 = some (ptr s.next 0) ∧ fr.get 3 = some (ptr (s.next + 1) 0) ∧ fr.get 5 = some (.int .i64 (i : Nat)) ∧ x.pages.take i = y.pages.take i) ?_ x.pages.length _ s2 ⟨0, rfl, Nat.zero_le _, rfl, by simp only [simq, Int.reduceEq, Nat.reduceEqDiff, q2], by simp only [simq, Int.reduceEq, Nat.reduceEqDiff, q3], by simp only [simq, Int.reduceEq, Nat.reduceEqDiff]; rfl, rfl⟩
  rintro k fr _ ⟨i, rfl, hi', rfl, k2, k3, k5, htk⟩
  unfold Code.tithingref14_Same_l0
  have hxg := mx.g
  by_cases hlt : i < x.pages.length
  · have d0 : decide (((i : Nat) : Int) < ((x.pages.length : Nat) : Int)) = true := by simp; omega
    have e1 : wr .i64 ((i : Int) + 1) = ((i + 1 : Nat) : Int) := by rw [wr_i64 (by omega) (by omega)]; omega
    refine W_seq (W_seq (W_region (by simp only [simq, Int.reduceEq, Nat.reduceEqDiff, k2, k5, a3, Int.ofNat_eq_natCast, d0]; rfl) (W_then (by simp only [simq, Int.reduceEq, Nat.reduceEqDiff]) (W_skip ?_))))
    have hi2 : i < y.pages.length := by omega
    obtain ⟨a, w, rfl, hca, ha⟩ := dg.at.2 i hlt
    obtain ⟨b, z, rfl, hcb, hb⟩ := eg.at.2 i hi2
    have hgl := mx.gp _ (List.getElem_mem hlt)
    have t1 : x.pages.take (i + 1) = x.pages.take i ++ [x.pages[i]] := List.take_succ_eq_append_getElem hlt
    have t2 : y.pages.take (i + 1) = y.pages.take i ++ [y.pages[i]] := List.take_succ_eq_append_getElem hi2
    have g1 : x.pages[i]? = some x.pages[i] := List.getElem?_eq_getElem hlt
    have g2 : y.pages[i]? = some y.pages[i] := List.getElem?_eq_getElem hi2
    generalize x.pages[i] = xp at *
    generalize y.pages[i] = yp at *
    have hb1 : Nat.blt i x.pages.length = true := by rw [Nat.blt_eq]; exact hlt
    have hb2 : Nat.blt i y.pages.length = true := by rw [Nat.blt_eq]; exact hi2
    refine W_seq (W_block (W_seq (W_ops (Wo_run (by simp only [simq, Int.reduceEq, Nat.reduceEqDiff, k2, k3, k5, a3, b3, hb1, hb2, hca, hcb]; rfl) (Wo_call hC.tithingref14_sameLines.prim (args := [w, z]) (by simp only [simq, Int.reduceEq, Nat.reduceEqDiff]; try rfl) ((sameLines_run hC.tithingref14_sameLines ha hb hgl).mono ?_))))))
    rintro _ _ ⟨rfl, rfl⟩
    by_cases hpp : xp = yp
    case neg =>
      have d2 : decide (xp = yp) = false := decide_eq_false hpp
      refine Wo_all (by simp only [simq, Int.reduceEq, Nat.reduceEqDiff, d2]; rfl) (W_then (by simp only [simq, Int.reduceEq, Nat.reduceEqDiff]) (W_seq (W_region (by simp only [simq, Int.reduceEq, Nat.reduceEqDiff]; rfl) (W_ret ⟨rfl, _, res_tmp res_nil, ?_, L2⟩))))
      have d3 : decide (x.pages = y.pages) = false := decide_eq_false fun e => by
        rw [e, g2] at g1
        exact hpp (Option.some.inj g1).symm
      rw [hxy, d3]
      simp only [simq, Int.reduceEq, Nat.reduceEqDiff, tupled]; rfl
    subst hpp
    have d2 : decide (xp = xp) = true := decide_eq_true rfl
    refine Wo_all (by simp only [simq, Int.reduceEq, Nat.reduceEqDiff, d2]; rfl) (W_else (by simp only [simq, Int.reduceEq, Nat.reduceEqDiff]) (W_skip ?_))
    show W E _ _ _ _
    refine W_region (by simp only [simq, Int.reduceEq, Nat.reduceEqDiff, k5, e1]; rfl) ⟨x.pages.length - (i + 1), by omega, i + 1, rfl, by omega, rfl, by simp only [simq, Int.reduceEq, Nat.reduceEqDiff, k2], by simp only [simq, Int.reduceEq, Nat.reduceEqDiff, k3], by simp only [simq, Int.reduceEq, Nat.reduceEqDiff], ?_⟩
    rw [t1, t2, htk]
  · have e : i = x.pages.length := by omega
    subst e
    have d0 : decide (((x.pages.length : Nat) : Int) < ((x.pages.length : Nat) : Int)) = false := by simp
    refine W_seq (W_seq (W_region (by simp only [simq, Int.reduceEq, Nat.reduceEqDiff, k2, k5, a3, Int.ofNat_eq_natCast, d0]; rfl) (W_else (by simp only [simq, Int.reduceEq, Nat.reduceEqDiff]) (W_exit ?_))))
    show W E _ _ _ _
    refine W_seq (W_region (by simp only [simq, Int.reduceEq, Nat.reduceEqDiff]; rfl) (W_ret ⟨rfl, _, res_tmp res_nil, ?_, L2⟩))
    rw [List.take_length, hpl, List.take_length] at htk
    have d2 : decide (x.pages = y.pages) = true := decide_eq_true htk
    rw [hxy, d2]
    simp only [simq, Int.reduceEq, Nat.reduceEqDiff, tupled]; rfl
end
end
end Go.Ev
