/-
  The program's parser.
-/
import Derived.Test.YtoinadgkjnbejaaDoorPgPages
set_option linter.unusedVariables false
set_option linter.unusedSimpArgs false
namespace Go.Ev
noncomputable section
open Go.Pg
def askOps : CCode := (.many 0 ([⟨(some 143), .mov (.t 3), none, 0, []⟩,
      ⟨(some 144), .un .not (.t 143), none, 1, []⟩,
      ⟨(some 145), .mov (.t 144), none, 2, []⟩,
      ⟨(some 146), .mov (.t 8), (some ((some 145), false)), 3, []⟩,
      ⟨(some 147), .bin .gtr (.t 146) (.c (.int .i64 1)), (some ((some 145), false)), 4, []⟩,
      ⟨(some 148), .pick (.t 145) (.c (.bool true)) (.t 147), none, 5, []⟩,
      ⟨(some 149), .mov (.t 148), none, 6, []⟩,
      ⟨(some 150), .mov (.t 9), (some ((some 149), false)), 7, []⟩,
      ⟨(some 151), .bin .gtr (.t 150) (.c (.int .i64 1)), (some ((some 149), false)), 8, []⟩,
      ⟨(some 152), .pick (.t 149) (.c (.bool true)) (.t 151), none, 9, []⟩,
      ⟨(some 153), .mov (.t 152), none, 10, []⟩,
      ⟨(some 154), .mov (.t 4), (some ((some 153), false)), 11, []⟩,
      ⟨(some 155), .lenV (.t 154), (some ((some 153), false)), 12, []⟩,
      ⟨(some 156), .bin .eql (.t 155) (.c (.int .i64 0)), (some ((some 153), false)), 13, []⟩,
      ⟨(some 157), .pick (.t 153) (.c (.bool true)) (.t 156), none, 14, []⟩,
      ⟨(some 158), .mov (.t 157), none, 15, []⟩,
      ⟨(some 159), .mov (.t 4), (some ((some 158), false)), 16, []⟩,
      ⟨(some 160), .iaddrV 1 (.t 159) (.c (.int .i64 0)), (some ((some 158), false)), 17, []⟩,
      ⟨(some 161), .load1 (.t 160), (some ((some 158), false)), 18, []⟩,
      ⟨(some 162), .bin .neq (.t 161) (.c (.string ⟨⟨[37, 37, 84, 114, 97, 105, 108, 101, 114]⟩⟩)), (some ((some 158), false)), 19, []⟩,
      ⟨(some 163), .pick (.t 158) (.c (.bool true)) (.t 162), none, 20, []⟩,
      ⟨(some 164), .mov (.t 163), none, 21, []⟩,
      ⟨(some 165), .mov (.t 9), (some ((some 164), false)), 22, []⟩,
      ⟨(some 166), .bin .eql (.t 165) (.c (.int .i64 1)), (some ((some 164), false)), 23, []⟩,
      ⟨(some 167), .mov (.t 166), (some ((some 164), false)), 24, []⟩,
      ⟨(some 168), .mov (.t 7), (some ((some 167), true)), 25, []⟩,
      ⟨(some 169), .faddr 3 (.t 2), (some ((some 167), true)), 26, []⟩,
      ⟨(some 170), .load1 (.t 169), (some ((some 167), true)), 27, []⟩,
      ⟨(some 171), .lenV (.t 170), (some ((some 167), true)), 28, []⟩] ++
     (⟨(some 172), .callF 44 [(.t 171)], (some ((some 167), true)), 29, []⟩ ::
     ([⟨(some 173), .bin .neq (.t 168) (.t 172), (some ((some 167), true)), 30, []⟩,
      ⟨(some 174), .pick (.t 167) (.t 173) (.c (.bool false)), (some ((some 164), false)), 31, []⟩,
      ⟨(some 175), .pick (.t 164) (.c (.bool true)) (.t 174), none, 32, []⟩]))))
theorem plain_any (r : List Ln) : plainL r = !(r.any fun x => !((kd x).1 == 0)) := by
  unfold plainL
  induction r with
  | nil => rfl
  | cons x r ih => rw [List.all_cons, List.any_cons, ih, Bool.not_or, Bool.not_not]
section
variable {E : Env} {f : FuncId} {s t u : St}
set_option maxHeartbeats 8000000 in
theorem parse_end (hC : Codes E) (P : Prims E) (G : Gl s) {d H lo hn hc wn wc : Nat} {hp wp : Option Addr} {hdr pro : List Ln} {y : HS} {l : Ln} (hd : s.next = d) (hdH : d < H) (hHlo : H ≤ lo) {fr : Fr} {t : St} {p : Option Addr} {n c : Nat} {cur : List Ln} {ps : List (List Ln)} {g : Value}
    (A : PSt s d H lo hp hn hc hdr wp wn wc pro y.title t p n c cur ps g) (hdoc : docR l = endP y hdr pro (some (ps, cur))) (hcnt : cur.length + ps.length ≤ 100000) (hsh : ∀ x ∈ cur, x.length ≤ 100000)
    (k2 : fr.get 2 = some (ptr d 0)) (k3 : fr.get 3 = some (.bool true)) (k4 : fr.get 4 = some (.slice p n c)) (k7 : fr.get 7 = some (strOf y.told)) (k8 : fr.get 8 = some (.int .i64 (y.titles : Nat))) (k9 : fr.get 9 = some (.int .i64 (y.counts : Nat))) {Q : Ex → Fr → St → Prop}
    (hret : ∀ fr' t', (isExit .ret = false ∧ ∃ m, optL (oneRes fr' t') [.cell 2 true 5, .tmp 3] = some m ∧ ProgPost s l (tupled m) t') → Q .ret fr' t') :
    W E (.seq
 (.seq
  askOps
  (.cond (.t 175)
   (.seq
    (.region 0 ([⟨(some 176), .loadN 5 (.t 2), none, 0, []⟩,
        ⟨none, .store 5 (.t 2) (.t 176), none, 1, []⟩,
        ⟨(some 3), .mov (.c (.bool false)), none, 2, []⟩]))
    (.ret))
   (.skip)))
 (.seq
 (.region 0 ([⟨(some 177), .mov (.t 4), none, 0, []⟩,
     ⟨(some 178), .sliceV 1 (.t 177) (some (.c (.int .i64 1))) none none, none, 1, []⟩,
     ⟨(some 179), .faddr 4 (.t 2), none, 2, []⟩,
     ⟨none, .store 1 (.t 179) (.t 178), none, 3, []⟩]))
 (.seq
 (.region 0 ([⟨(some 180), .loadN 5 (.t 2), none, 0, []⟩,
     ⟨(some 181), .faddr 4 (.t 2), none, 1, []⟩,
     ⟨(some 182), .load1 (.t 181), none, 2, []⟩] ++
    (⟨(some 183), .callF 45 [(.t 182), (.c (.func (.func 46) ⟨[]⟩ ⟨[]⟩))], none, 3, [((some 180), .loadN 5 (.t 2), none)]⟩ ::
    ([⟨(some 184), .un .not (.t 183), none, 4, []⟩,
     ⟨none, .store 5 (.t 2) (.t 180), none, 5, []⟩,
     ⟨(some 3), .mov (.t 184), none, 6, []⟩]))))
 (.ret)))) fr t Q := by
  have hlen := A.wl.len
  subst hlen
  have hcap := A.wl.cap
  have hnc := A.wl.nc
  have hL := A.L.2.1
  have hle := A.le
  obtain ⟨vs, g1, g2, g3⟩ := A.gg
  obtain ⟨gp, gn, gc, hg, hgn⟩ := g1.sl.parts
  have hgn' : gn = ps.length := by omega
  subst hgn'
  have c3 : t.cell ⟨d, 3, none⟩ = some g := A.row.cell 3
  rw [hg] at c3
  unfold askOps
  by_cases b1 : 1 < y.titles
  · have d1 : decide ((1 : Int) < ((y.titles : Nat) : Int)) = true := by simp; omega
    have hno : docR l = none := by
      rw [hdoc]
      cases cur with
      | nil => rfl
      | cons x r => exact if_neg fun h => by omega
    exact W_seq (W_seq (W_opsM (Wo_all (by simp only [simq, Int.reduceEq, Nat.reduceEqDiff, k3, k8, d1]; rfl) (W_then (by simp only [simq, Int.reduceEq, Nat.reduceEqDiff]) (progFail 176 (by decide) (by decide) A.L (Nat.le_of_eq hd) A.row rfl (by simp only [simq, Int.reduceEq, Nat.reduceEqDiff, k2]) hno hret)))))
  have d1 : decide ((1 : Int) < ((y.titles : Nat) : Int)) = false := by simp; omega
  by_cases b2 : 1 < y.counts
  · have d2 : decide ((1 : Int) < ((y.counts : Nat) : Int)) = true := by simp; omega
    have hno : docR l = none := by
      rw [hdoc]
      cases cur with
      | nil => rfl
      | cons x r => exact if_neg fun h => by omega
    exact W_seq (W_seq (W_opsM (Wo_all (by simp only [simq, Int.reduceEq, Nat.reduceEqDiff, k3, k8, k9, d1, d2]; rfl) (W_then (by simp only [simq, Int.reduceEq, Nat.reduceEqDiff]) (progFail 176 (by decide) (by decide) A.L (Nat.le_of_eq hd) A.row rfl (by simp only [simq, Int.reduceEq, Nat.reduceEqDiff, k2]) hno hret)))))
  have d2 : decide ((1 : Int) < ((y.counts : Nat) : Int)) = false := by simp; omega
  cases cur with
  | nil =>
    have hno : docR l = none := hdoc
    have d3 : decide (((([] : List Ln).length : Nat) : Int) = 0) = true := by decide
    exact W_seq (W_seq (W_opsM (Wo_all (by simp only [simq, Int.reduceEq, Nat.reduceEqDiff, k3, k4, k8, k9, d1, d2, Int.ofNat_eq_natCast, d3]; rfl) (W_then (by simp only [simq, Int.reduceEq, Nat.reduceEqDiff]) (progFail 176 (by decide) (by decide) A.L (Nat.le_of_eq hd) A.row rfl (by simp only [simq, Int.reduceEq, Nat.reduceEqDiff, k2]) hno hret)))))
  | cons x r =>
  have d3 : decide ((((x :: r).length : Nat) : Int) = 0) = false := by simp; omega
  obtain ⟨a, rfl, hcell⟩ := A.wl.m.1.cell (i := 0) (by simp)
  have hcell : t.cell (a.add 0) = some (strOf x) := hcell
  have hz : asNat (.int .i64 0) = some 0 := rfl
  have hb : Nat.blt 0 (x :: r).length = true := rfl
  by_cases b4 : x = wTrailer
  case neg =>
    have hno : docR l = none := by rw [hdoc]; exact if_neg fun h => b4 h.2.2.1
    have d4 : decide (x = wTrailer) = false := decide_eq_false b4
    unfold wTrailer at d4
    exact W_seq (W_seq (W_opsM (Wo_all (by simp only [simq, Int.reduceEq, Nat.reduceEqDiff, k3, k4, k8, k9, d1, d2, Int.ofNat_eq_natCast, d3, hz, hb, hcell, d4]; rfl) (W_then (by simp only [simq, Int.reduceEq, Nat.reduceEqDiff]) (progFail 176 (by decide) (by decide) A.L (Nat.le_of_eq hd) A.row rfl (by simp only [simq, Int.reduceEq, Nat.reduceEqDiff, k2]) hno hret)))))
  have d4 : decide (x = wTrailer) = true := decide_eq_true b4
  unfold wTrailer at d4
  have hito := pItoa_run (s := t) (g := 0) (n := ps.length) (G.next A.L).tab (by omega)
  have d5 : decide (((y.counts : Nat) : Int) = 1) = decide (y.counts = 1) := by rw [decide_eq_decide]; omega
  by_cases b5 : y.counts = 1 → y.told = dec ps.length
  case neg =>
    have hno : docR l = none := by rw [hdoc]; exact if_neg fun h => b5 h.2.2.2.1
    have e1 : y.counts = 1 := Classical.byContradiction fun h => b5 fun e => absurd e h
    have e2 : decide (y.told = dec ps.length) = false := decide_eq_false fun h => b5 fun _ => h
    rw [decide_eq_true e1] at d5
    exact W_seq (W_seq (W_opsM (Wo_all (by simp only [simq, Int.reduceEq, Nat.reduceEqDiff, k2, k3, k4, k7, k8, k9, d1, d2, Int.ofNat_eq_natCast, d3, hz, hb, hcell, d4, d5, c3, pc_some P.itoa, hito, e2]; rfl) (W_then (by simp only [simq, Int.reduceEq, Nat.reduceEqDiff]) (progFail 176 (by decide) (by decide) A.L (Nat.le_of_eq hd) A.row rfl (by simp only [simq, Int.reduceEq, Nat.reduceEqDiff, k2]) hno hret)))))
  refine W_seq (W_seq (W.mono (Q := fun e fr' t' => e = .normal ∧ t' = t ∧ fr'.get 175 = some (.bool false) ∧ fr'.get 2 = some (ptr d 0) ∧ fr'.get 4 = some (.slice (some a) (x :: r).length c)) ?_ ?_))
  · by_cases e1 : y.counts = 1
    · have e2 : decide (y.told = dec ps.length) = true := decide_eq_true (b5 e1)
      rw [decide_eq_true e1] at d5
      exact W_opsM (Wo_all (by simp only [simq, Int.reduceEq, Nat.reduceEqDiff, k2, k3, k4, k7, k8, k9, d1, d2, Int.ofNat_eq_natCast, d3, hz, hb, hcell, d4, d5, c3, pc_some P.itoa, hito, e2]; rfl) ⟨rfl, rfl, by simp only [simq, Int.reduceEq, Nat.reduceEqDiff], by simp only [simq, Int.reduceEq, Nat.reduceEqDiff, k2], by simp only [simq, Int.reduceEq, Nat.reduceEqDiff, k4]⟩)
    · rw [decide_eq_false e1] at d5
      exact W_opsM (Wo_all (by simp only [simq, Int.reduceEq, Nat.reduceEqDiff, k2, k3, k4, k8, k9, d1, d2, Int.ofNat_eq_natCast, d3, hz, hb, hcell, d4, d5]; rfl) ⟨rfl, rfl, by simp only [simq, Int.reduceEq, Nat.reduceEqDiff], by simp only [simq, Int.reduceEq, Nat.reduceEqDiff, k2], by simp only [simq, Int.reduceEq, Nat.reduceEqDiff, k4]⟩)
  rintro _ fr2 t2 ⟨rfl, ht, q175, q2, q4⟩
  rw [ht]; clear ht
  show W E _ fr2 _ _
  refine W_else (by simp only [simq, Int.reduceEq, Nat.reduceEqDiff, q175]) (W_skip ?_)
  show W E _ fr2 _ _
  have hs1 : ∀ t : St, sliceOp t 1 (.slice (some a) (x :: r).length c) (some (.int .i64 1)) none none = some (.slice (subP (some a) c 1) ((x :: r).length - 1) (c - 1)) := fun t => slice_from (l := 1) hcap (by simp) hnc
  have wr1 := A.wl.cut (l := 1) (k := (x :: r).length) (by simp) (Nat.le_refl _)
  have er : ((x :: r).drop 1).take ((x :: r).length - 1) = r := by simp
  rw [er] at wr1
  generalize hsl : Value.slice (subP (some a) c 1) ((x :: r).length - 1) (c - 1) = w4 at hs1
  have hst : storable w4 = true ∧ vcells w4 = [w4] ∧ Nat.beq (lenL [w4]) 1 = true := by subst hsl; exact ⟨rfl, rfl, rfl⟩
  obtain ⟨t5, p5, R5, n5, f5⟩ := A.row.put (o := 4) (vs := [w4]) (by simp)
  have B5 : But d t t5 := but_put n5 f5
  have R5 : Row t5 d [strOf y.title, .slice hp hn hc, .slice wp wn wc, g, w4] := R5
  refine W_seq (W_region (by simp only [simq, Int.reduceEq, Nat.reduceEqDiff, q2, q4, hs1, hst.1, hst.2.1, hst.2.2, p5]; rfl) ?_)
  have row5 : t5.row ⟨d, 0, none⟩ 5 = some [strOf y.title, .slice hp hn hc, .slice wp wn wc, g, w4] := R5.row rfl
  have cell4 : t5.cell ⟨d, 4, none⟩ = some w4 := R5.cell 4
  have L5 : Low s.next s t5 := A.L.trans (But.low B5 (by omega) hL)
  have hw5 : Win t5 (d + 1) H (subP (some a) c 1) ((x :: r).length - 1) (c - 1) r := wr1.but B5 (by omega) (.inl (by omega))
  have hw5' : Texts t5 H w4 r := by rw [← hsl]; exact hw5.texts
  have hshr : ∀ z ∈ r, z.length ≤ 100000 := fun z hz => hsh z (List.mem_cons_of_mem _ hz)
  refine W_seq (W_ops (Wo_run (by simp only [simq, Int.reduceEq, Nat.reduceEqDiff, q2, row5, cell4]; rfl) (Wo_callA hC.slices_ContainsFunc_string_string.prim (args := [w4, .func (.func 46) ⟨[]⟩ ⟨[]⟩]) (by simp only [simq, Int.reduceEq, Nat.reduceEqDiff]; try rfl) ((ContainsFuncS_run hC hC.slices_ContainsFunc_string_string hw5' (by omega) (by simp at hcnt; omega) (P := fun x => !((kd x).1 == 0)) hC.page_parse_1.prim (fun z hz t' Lt => parse1_run hC P hC.page_parse_1 (G.next (L5.trans (Lt.weak L5.2.1))) (hshr z hz))).mono ?_))))
  rintro _ t6 ⟨l6, rfl⟩
  have hl6 := l6.2.1
  have hn5 := B5.1
  have R6 := R5.low l6 (by omega)
  have row6 : t6.row ⟨d, 0, none⟩ 5 = some [strOf y.title, .slice hp hn hc, .slice wp wn wc, g, w4] := R6.row rfl
  have hsame : same (.agg ⟨[strOf y.title, .slice hp hn hc, .slice wp wn wc, g, w4]⟩) (.agg ⟨[strOf y.title, .slice hp hn hc, .slice wp wn wc, g, w4]⟩) = true := by
    refine same_agg fun v hv => ?_
    simp only [List.mem_cons, List.not_mem_nil, or_false] at hv
    rcases hv with rfl | rfl | rfl | rfl | rfl
    · exact sameV_str _
    · exact sameV_slice A.wh.m.1.spot
    · exact sameV_slice A.ww.m.1.spot
    · have hgs := g1.sl
      rw [hg] at hgs ⊢
      exact sameV_slice hgs.spot
    · rw [← hsl]
      exact sameV_slice hw5.m.1.spot
  refine ⟨again_loadN (by simp only [simq, Int.reduceEq, Nat.reduceEqDiff, q2]) row6 (by simp only [simq, Int.reduceEq, Nat.reduceEqDiff]) hsame again_nil, ?_⟩
  obtain ⟨t7, p7, R7, n7, f7⟩ := R6.put (o := 0) (vs := [strOf y.title, .slice hp hn hc, .slice wp wn wc, g, w4]) (by simp)
  have B7 : But d t6 t7 := but_put n7 f7
  have hst7 : storable (.agg ⟨[strOf y.title, .slice hp hn hc, .slice wp wn wc, g, w4]⟩) = true := rfl
  have hl7 : Nat.beq (lenL [strOf y.title, .slice hp hn hc, .slice wp wn wc, g, w4]) 5 = true := rfl
  refine Wo_all (by simp only [simq, Int.reduceEq, Nat.reduceEqDiff, q2, hst7, vcells_agg, hl7, p7]; rfl) ?_
  have L6 : Low s.next s t6 := L5.trans (l6.weak L5.2.1)
  have hpa := plain_any r
  refine W_ret (hret _ _ ⟨rfl, _, res_cell (cs := [strOf y.title, .slice hp hn hc, .slice wp wn wc, g, w4]) (by simp only [simq, Int.reduceEq, Nat.reduceEqDiff, q2]) (R7.row rfl) (res_tmp res_nil), L6.trans (But.low B7 (by omega) L6.2.1), [strOf y.title, .slice hp hn hc, .slice wp wn wc, g, w4], rfl, ?_, fun dd hdd => ?_⟩)
  · have hs : (docR l).isSome = plainL r := by
      rw [hdoc]
      show (if _ then some _ else none).isSome = _
      cases hp0 : plainL r with
      | true => rw [if_pos ⟨by omega, by omega, b4, b5, rfl⟩]; rfl
      | false => rw [if_neg (fun h => by cases h.2.2.2.2)]; rfl
    rw [hs, hpa]
    simp only [simq, Int.reduceEq, Nat.reduceEqDiff, tupled]
  · rw [hdoc] at hdd
    have hdd : (if _ then some _ else none) = some dd := hdd
    split at hdd
    · cases hdd
      have md : ∀ {p' : Option Addr} {n' c' : Nat} {xs : List Ln}, Win t (d + 1) H p' n' c' xs → MTexts t7 s.next t7.next (.slice p' n' c') xs := fun h => MTexts.to (((h.but B5 (by omega) (.inl (by omega))).low l6 (by omega)).but B7 (by omega) (.inl (by omega))).m (by omega) (by omega)
      refine ⟨_, _, g, w4, rfl, md A.wh, md A.ww, ⟨vs, ?_, g2, fun i z q hz hq => ?_⟩, ?_⟩
      · exact (((g1.but B5 (by omega)).low l6 (Nat.le_refl _)).but B7 (by omega)).mid.weak (by omega)
      · exact MTexts.to ((((g3 i z q hz hq).but B5 (by omega) (.inl (by omega))).low l6 (by omega)).but B7 (by omega) (.inl (by omega))) (by omega) (by omega)
      · rw [← hsl]; exact md wr1
    · cases hdd
end
end
end Go.Ev
