/-
  The document's names.
-/
import Derived.Test.YtoinadgkjnbejaaDoorPgNamesP
set_option linter.unusedVariables false
set_option linter.unusedSimpArgs false
namespace Go.Ev
noncomputable section
open Go.Pg
section
variable {E : Env} {f : FuncId} {s t u : St}
theorem docOf_no {l : Ln} (h : errOf l ≠ 0) : docOf l = noDoc := by
  unfold errOf at h
  unfold docOf
  cases e : docR l with
  | none => rfl
  | some d => rw [e] at h; exact absurd rfl h
set_option maxHeartbeats 8000000 in
theorem refNames_run (hC : Codes E) (hf : Has E f Code.tithingref14_names) {k : Nat} (hk : k ≤ 9) {l : Ln} (hl : l.length ≤ 100000) : Cv E f [strOf l, .int .i64 (k : Nat)] s (NamesPost s k l) := by
  refine Cv_of hf.code ?_
  have h0 : (Tr.ofList (.e : Fr) 0 [strOf l, .int .i64 (k : Nat)]).get 0 = some (strOf l) := rfl
  have h1 : (Tr.ofList (.e : Fr) 0 [strOf l, .int .i64 (k : Nat)]).get 1 = some (.int .i64 (k : Nat)) := rfl
  generalize (Tr.ofList (.e : Fr) 0 [strOf l, .int .i64 (k : Nat)]) = fr0 at h0 h1
  unfold Code.tithingref14_names
  refine W_seq (W_region (by simp only [simq, Int.reduceEq, Nat.reduceEqDiff]; rfl) ?_)
  have K1 : Low s.next s (s.skip 8) := (Low.self s).skip 8
  have m1 := next_skip s 8
  refine W_seq (W_opsM (Wo_run (by simp only [simq, Int.reduceEq, Nat.reduceEqDiff, h0]; rfl) (Wo_call hC.tithingref14_Parse.prim (args := [strOf l]) (by simp only [simq, Int.reduceEq, Nat.reduceEqDiff, h0]; try rfl) ((refParse_run hC hC.tithingref14_Parse hl).mono ?_))))
  rintro _ s2 ⟨l2, cs, rfl, hM⟩
  have l2 : Low (s.skip 8).next (s.skip 8) s2 := l2
  have hl2 := l2.2.1
  have K2 : Low s.next s s2 := K1.trans (l2.weak (by omega))
  have hcs := hM.len
  refine Wo_run (l := [_, _, _]) (by simp only [simq, Int.reduceEq, Nat.reduceEqDiff, nth0, nth1]; rfl) ?_
  refine Wo_alloc (lo := s.next) (s0 := s) K2 (by omega) (by omega) fun s3 B3 n3 f3 => ?_
  obtain ⟨s4, p4, R4, n4, f4⟩ := B3.own.whole rfl hcs
  refine Wo_all (by simp only [simq, Int.reduceEq, Nat.reduceEqDiff, stor_agg, vcells_agg, five hcs, p4]; rfl) ?_
  show W E _ _ _ _
  have B4 : But (s.next + 5) s2 s4 := ⟨by omega, fun b hb hne => (f4 b hne).trans (f3 b hne)⟩
  have L4 : Low s.next s s4 := K2.trans (But.low B4 (by omega) (by omega))
  have M4 : DocM s4 (s.next + 8) s4.next cs (docOf l) := ((hM.to (by omega) (Nat.le_refl _)).but B4 (Nat.le_refl _) (.inl (by omega))).to (Nat.le_refl _) (by omega)
  obtain ⟨h, p, g, tr, rfl, -, hp, hg, -⟩ := M4.docV
  have few := docOf_few hl
  clear hM
  refine W_gen (T := [(1, .int .i64 (k : Nat)), (6, ptr (s.next + 5) 0), (7, .int .i64 (errOf l))]) (all_cons (by simp only [simq, Int.reduceEq, Nat.reduceEqDiff, h1]) (all_cons (by simp only [simq, Int.reduceEq, Nat.reduceEqDiff]) (all_cons (by simp only [simq, Int.reduceEq, Nat.reduceEqDiff]) all_nil))) fun fr2 gf => ?_
  have k1 := gf _ (.head _)
  have k6 := gf _ (.tail _ (.head _))
  have k7 := gf _ (.tail _ (.tail _ (.head _)))
  simp only at k1 k6 k7
  clear gf h0 h1
  by_cases he : errOf l = 0
  case neg =>
    have d1 : decide (errOf l = 0) = false := decide_eq_false he
    refine W_seq (W_seq (W_region (by simp only [simq, Int.reduceEq, Nat.reduceEqDiff, k7, d1]; rfl) (W_then (by simp only [simq, Int.reduceEq, Nat.reduceEqDiff]) ?_)))
    refine W_seq (W_region (by simp only [simq, Int.reduceEq, Nat.reduceEqDiff, k7]; rfl) (W_ret ⟨rfl, _, res_tmp (res_tmp res_nil), .slice none 0 0, by simp only [simq, Int.reduceEq, Nat.reduceEqDiff, tupled], L4, ?_⟩))
    rw [docOf_no he]
    exact Texts.nil
  have d1 : decide (errOf l = 0) = true := decide_eq_true he
  refine W_seq (W_seq (W_region (by simp only [simq, Int.reduceEq, Nat.reduceEqDiff, k7, d1]; rfl) (W_else (by simp only [simq, Int.reduceEq, Nat.reduceEqDiff]) (W_skip ?_))))
  show W E _ _ _ _
  generalize hdd : docOf l = d at *
  have a2 : s4.cell ⟨s.next + 5, 2, none⟩ = some p := R4.cell 2
  have a3 : s4.cell ⟨s.next + 5, 3, none⟩ = some g := R4.cell 3
  obtain ⟨gp, gc, rfl⟩ := hg.parts
  have m4 := next_skip s4 5
  have hfew := few.n
  have hgw := few.g
  have hx' := few.x
  unfold allOf at hfew hx'
  rw [List.length_append] at hfew
  refine W_seq (W_ops ?_)
  refine Wo_buildSlice (size := 1) (lo := s4.next) (n := 0) (cs := []) (by simp only [simq, Int.reduceEq, Nat.reduceEqDiff]; rfl) rfl (Nat.le_add_right _ _) (by omega) (by decide) ?_
  rintro s5 ⟨-, D5⟩ l5 hs5
  have L5 : Low s4.next s4 s5 := ((Low.self s4).skip 5).trans l5
  have n5 : s5.next = s4.next + 5 := by rw [hs5, St.next_set]; exact m4
  have a2' : s5.cell ⟨s.next + 5, 2, none⟩ = some p := (R4.low L5 (by omega)).cell 2
  refine Wo_run (l := [_, _]) (by simp only [simq, Int.reduceEq, Nat.reduceEqDiff, k6, a2']; rfl) ?_
  refine Wo_append (lo := s4.next) (by simp only [simq, Int.reduceEq, Nat.reduceEqDiff]) (by simp only [simq, Int.reduceEq, Nat.reduceEqDiff]) D5 (by omega) (Sl.feed (hp.low L5 (Nat.le_refl _))) (by decide) (by simp [room]; omega) ?_
  rintro v6 s6 g6 L6 -
  rw [List.nil_append] at g6
  refine Wo_all (by simp only [simq, Int.reduceEq, Nat.reduceEqDiff]; rfl) ?_
  show W E _ _ _ _
  have L56 : Low s4.next s4 s6 := L5.trans L6
  have R6 := R4.low L56 (by omega)
  have hg6 := hg.low L56 (Nat.le_refl _)
  have hL56 := L56.2.1
  have LA : Low s.next s s6 := L4.trans (L56.weak L4.2.1)
  refine W_seq (W_seq (W_region (by simp only [simq, Int.reduceEq, Nat.reduceEqDiff]; rfl) (W_block ?_)))
  have hGw : ∀ i (hi : i < d.pages.length), ((d.pages.take i).flatten ++ d.pages[i]).length ≤ d.pages.flatten.length := fun i hi => by
    have := flat_part hi d.pages[i].length
    rwa [List.take_length] at this
  refine W_inv (fun m fr t => ∃ i v, m = d.pages.length - i ∧ i ≤ d.pages.length ∧ Low s4.next s6 t ∧ fr.get 1 = some (.int .i64 (k : Nat)) ∧ fr.get 6 = some (ptr (s.next + 5) 0) ∧ fr.get 9 = some (.int .i64 (i : Nat)) ∧ fr.get 8 = some v ∧ Gr t s4.next 1 v ((d.prologue ++ (d.pages.take i).flatten).map strOf)) ?_ d.pages.length _ s6 ⟨0, v6, rfl, Nat.zero_le _, Low.refl hL56, by simp only [simq, Int.reduceEq, Nat.reduceEqDiff, k1], by simp only [simq, Int.reduceEq, Nat.reduceEqDiff, k6], by simp only [simq, Int.reduceEq, Nat.reduceEqDiff]; rfl, by simp only [simq, Int.reduceEq, Nat.reduceEqDiff], by simpa using g6⟩
  rintro m fr t ⟨i, v, rfl, hi, L, k1, k6, k9, k8, hv⟩
  unfold Code.tithingref14_names_l0
  have hL := L.2.1
  have a3 : t.cell ⟨s.next + 5, 3, none⟩ = some (.slice gp d.pages.length gc) := (R6.low L (by omega)).cell 3
  by_cases hlt : i < d.pages.length
  · have d0 : decide (((i : Nat) : Int) < ((d.pages.length : Nat) : Int)) = true := by simp; omega
    have e1 : wr .i64 ((i : Int) + 1) = ((i + 1 : Nat) : Int) := by rw [wr_i64 (by omega) (by omega)]; omega
    refine W_seq (W_seq (W_region (by simp only [simq, Int.reduceEq, Nat.reduceEqDiff, k6, k9, a3, Int.ofNat_eq_natCast, d0]; rfl) (W_then (by simp only [simq, Int.reduceEq, Nat.reduceEqDiff]) (W_skip ?_))))
    obtain ⟨a, w, rfl, hca, ha⟩ := (hg6.low L (Nat.le_refl _)).at.2 i hlt
    have hb1 : Nat.blt i d.pages.length = true := by rw [Nat.blt_eq]; exact hlt
    have htf := take_flat hlt
    have hgwi := hGw i hlt
    generalize d.pages[i] = ls at *
    rw [List.length_append] at hgwi
    refine W_seq (W_block (W_ops (Wo_run (l := [_, _, _, _, _, _]) (by simp only [simq, Int.reduceEq, Nat.reduceEqDiff, k6, k8, k9, a3, hb1, hca]; rfl) ?_)))
    refine Wo_append (lo := s4.next) (by simp only [simq, Int.reduceEq, Nat.reduceEqDiff, k8]) (by simp only [simq, Int.reduceEq, Nat.reduceEqDiff]) (x := .t 33) (y := .t 38) hv (by show s4.next ≤ t.next; omega) (Sl.feed ha) (by decide) (by simp only [List.length_map, List.length_append]; unfold room; omega) ?_
    rintro v7 s7 g7 L7 -
    have L7 : Low s4.next t s7 := L7
    refine Wo_all (by simp only [simq, Int.reduceEq, Nat.reduceEqDiff]; rfl) ?_
    show W E _ _ _ _
    refine W_region (by simp only [simq, Int.reduceEq, Nat.reduceEqDiff, k9, e1]; rfl) ⟨d.pages.length - (i + 1), by omega, i + 1, v7, rfl, by omega, L.trans L7, by simp only [simq, Int.reduceEq, Nat.reduceEqDiff, k1], by simp only [simq, Int.reduceEq, Nat.reduceEqDiff, k6], by simp only [simq, Int.reduceEq, Nat.reduceEqDiff], by simp only [simq, Int.reduceEq, Nat.reduceEqDiff], ?_⟩
    rw [htf, ← List.append_assoc, List.map_append]
    exact g7
  · have e : i = d.pages.length := by omega
    subst e
    have d0 : decide (((d.pages.length : Nat) : Int) < ((d.pages.length : Nat) : Int)) = false := by simp
    refine W_seq (W_seq (W_region (by simp only [simq, Int.reduceEq, Nat.reduceEqDiff, k6, k9, a3, Int.ofNat_eq_natCast, d0]; rfl) (W_else (by simp only [simq, Int.reduceEq, Nat.reduceEqDiff]) (W_exit ?_))))
    show W E _ _ _ _
    rw [List.take_length] at hv
    have hall : d.prologue ++ d.pages.flatten = allOf d := rfl
    rw [hall] at hv hx'
    have hlen : (allOf d).length ≤ 100000 := few.n
    refine W_seq (W_region (by simp only [simq, Int.reduceEq, Nat.reduceEqDiff]; rfl) ?_)
    refine W_seq (W_seq (W_region (by simp only [simq, Int.reduceEq, Nat.reduceEqDiff]; rfl) (W_block ?_)))
    obtain ⟨q, n, c, rfl, hn⟩ := hv.sl.parts
    rw [List.length_map, Nat.mul_one] at hn
    subst hn
    have TT : Texts t t.next (.slice q (allOf d).length c) (allOf d) := hv.sl
    have LB : Low s.next s t := LA.trans (L.weak (by omega))
    have hnm : allOf (docOf l) = allOf d := by rw [hdd]
    generalize allOf d = xs at *
    refine W_inv (fun m fr u => ∃ i o, m = xs.length - i ∧ i ≤ xs.length ∧ Low t.next t u ∧ fr.get 1 = some (.int .i64 (k : Nat)) ∧ fr.get 8 = some (.slice q xs.length c) ∧ fr.get 11 = some (.int .i64 (i : Nat)) ∧ fr.get 10 = some o ∧ Gr u t.next 1 o ((nmL k (xs.take i)).map strOf)) ?_ xs.length _ t ⟨0, .slice none 0 0, rfl, Nat.zero_le _, Low.self t, by simp only [simq, Int.reduceEq, Nat.reduceEqDiff, k1], by simp only [simq, Int.reduceEq, Nat.reduceEqDiff, k8], by simp only [simq, Int.reduceEq, Nat.reduceEqDiff]; rfl, by simp only [simq, Int.reduceEq, Nat.reduceEqDiff], .nil⟩
    rintro m fr u ⟨i, o, rfl, hi, M, k1, k8, k11, k10, ho⟩
    unfold Code.tithingref14_names_l1
    have hM := M.2.1
    by_cases hlt : i < xs.length
    · have d0 : decide (((i : Nat) : Int) < ((xs.length : Nat) : Int)) = true := by simp; omega
      have e1 : wr .i64 ((i : Int) + 1) = ((i + 1 : Nat) : Int) := by rw [wr_i64 (by omega) (by omega)]; omega
      refine W_seq (W_seq (W_region (by simp only [simq, Int.reduceEq, Nat.reduceEqDiff, k8, k11, Int.ofNat_eq_natCast, d0]; rfl) (W_then (by simp only [simq, Int.reduceEq, Nat.reduceEqDiff]) (W_skip ?_))))
      obtain ⟨b, rfl, hcb⟩ := Sl.cell (TT.low M (Nat.le_refl _)) (i := i) (by rw [List.length_map]; omega)
      rw [List.getElem?_map, List.getElem?_eq_getElem hlt, Option.map_some] at hcb
      have t1 : xs.take (i + 1) = xs.take i ++ [xs[i]] := List.take_succ_eq_append_getElem hlt
      have hxl := hx' _ (List.getElem_mem hlt)
      have hb2 : Nat.blt i xs.length = true := by rw [Nat.blt_eq]; exact hlt
      have hsn := nmL_snoc k (xs.take i) xs[i]
      rw [← t1] at hsn
      have hnl := nmL_len k (xs.take i)
      rw [List.length_take] at hnl
      generalize xs[i] = x at *
      generalize nmL k (xs.take i) = out at *
      have dkk : decide ((((kd x).1 : Nat) : Int) = ((k : Nat) : Int)) = decide ((kd x).1 = k) := by rw [decide_eq_decide]; omega
      refine W_seq (W_block (W_seq (W_opsM (Wo_run (l := [_, _, _, _]) (by simp only [simq, Int.reduceEq, Nat.reduceEqDiff, k8, k11, hb2, hcb]; rfl) (Wo_call hC.tithingref14_kind.prim (args := [strOf x]) (by simp only [simq, Int.reduceEq, Nat.reduceEqDiff]; try rfl) ((kind_run hC hC.tithingref14_kind (s := u) x hxl).mono ?_))))))
      rintro _ u2 ⟨hu2, rfl⟩
      rw [hu2]
      clear hu2 u2
      refine Wo_all (by simp only [simq, Int.reduceEq, Nat.reduceEqDiff, nth0, nth1]; rfl) ?_
      show W E _ _ _ _
      cases dk : decide ((kd x).1 = k) with
      | false =>
        rw [dk] at dkk
        refine W_seq (W_opsM (Wo_all (by simp only [simq, Int.reduceEq, Nat.reduceEqDiff, k1, k10, dkk]; rfl) (W_else (by simp only [simq, Int.reduceEq, Nat.reduceEqDiff]) (W_skip ?_))))
        show W E _ _ _ _
        refine W_region (by simp only [simq, Int.reduceEq, Nat.reduceEqDiff, k11, e1]; rfl) ⟨xs.length - (i + 1), by omega, i + 1, o, rfl, by omega, M, by simp only [simq, Int.reduceEq, Nat.reduceEqDiff, k1], by simp only [simq, Int.reduceEq, Nat.reduceEqDiff, k8], by simp only [simq, Int.reduceEq, Nat.reduceEqDiff], by simp only [simq, Int.reduceEq, Nat.reduceEqDiff, k10], ?_⟩
        rw [hsn, addN, if_neg fun h => of_decide_eq_false dk h.1]
        exact ho
      | true =>
        rw [dk] at dkk
        refine W_seq (W_opsM (Wo_run (by simp only [simq, Int.reduceEq, Nat.reduceEqDiff, k1, k10, dkk]; rfl) (Wo_gt (by simp only [simq, Int.reduceEq, Nat.reduceEqDiff]) (Wo_call hC.tithingref14_has.prim (args := [o, strOf (kd x).2]) (by simp only [simq, Int.reduceEq, Nat.reduceEqDiff]; try rfl) ((has_run hC.tithingref14_has (hi := u.next) (s := u) (l := out) ho.sl (by omega) _).mono ?_)))))
        rintro _ u2 ⟨hu2, rfl⟩
        rw [hu2]
        clear hu2 u2
        cases dm : decide ((kd x).2 ∈ out) with
        | true =>
          refine Wo_all (by simp only [simq, Int.reduceEq, Nat.reduceEqDiff, dm]; rfl) (W_else (by simp only [simq, Int.reduceEq, Nat.reduceEqDiff]) (W_skip ?_))
          show W E _ _ _ _
          refine W_region (by simp only [simq, Int.reduceEq, Nat.reduceEqDiff, k11, e1]; rfl) ⟨xs.length - (i + 1), by omega, i + 1, o, rfl, by omega, M, by simp only [simq, Int.reduceEq, Nat.reduceEqDiff, k1], by simp only [simq, Int.reduceEq, Nat.reduceEqDiff, k8], by simp only [simq, Int.reduceEq, Nat.reduceEqDiff], by simp only [simq, Int.reduceEq, Nat.reduceEqDiff, k10], ?_⟩
          rw [hsn, addN, if_neg fun h => h.2 (of_decide_eq_true dm)]
          exact ho
        | false =>
          refine Wo_all (by simp only [simq, Int.reduceEq, Nat.reduceEqDiff, dm]; rfl) (W_then (by simp only [simq, Int.reduceEq, Nat.reduceEqDiff]) ?_)
          have m2 := next_skip u 5
          refine W_ops (Wo_run (l := [_, _]) (by simp only [simq, Int.reduceEq, Nat.reduceEqDiff, k10]; rfl) ?_)
          refine Wo_buildSlice (size := 1) (lo := u.next) (n := 1) (cs := [strOf (kd x).2]) (by simp only [simq, Int.reduceEq, Nat.reduceEqDiff]; rfl) rfl (Nat.le_add_right _ _) (by show u.next + 2 < (u.skip 5).next; omega) (by decide) ?_
          rintro u3 ⟨D3, -⟩ l3 hs3
          have L3 : Low u.next u u3 := ((Low.self u).skip 5).trans l3
          refine Wo_append (lo := t.next) (by simp only [simq, Int.reduceEq, Nat.reduceEqDiff]) (by simp only [simq, Int.reduceEq, Nat.reduceEqDiff]) (ho.low L3 (Nat.le_refl _)) (Nat.le_trans M.le L3.2.1) D3.feed (by decide) (by simp only [List.length_map, List.length_cons, List.length_nil]; unfold room; omega) ?_
          rintro w4 u4 g4 L4 -
          refine Wo_all (by simp only [simq, Int.reduceEq, Nat.reduceEqDiff]; rfl) ?_
          show W E _ _ _ _
          refine W_region (by simp only [simq, Int.reduceEq, Nat.reduceEqDiff, k11, e1]; rfl) ⟨xs.length - (i + 1), by omega, i + 1, w4, rfl, by omega, (M.trans (L3.weak M.le)).trans L4, by simp only [simq, Int.reduceEq, Nat.reduceEqDiff, k1], by simp only [simq, Int.reduceEq, Nat.reduceEqDiff, k8], by simp only [simq, Int.reduceEq, Nat.reduceEqDiff], by simp only [simq, Int.reduceEq, Nat.reduceEqDiff], ?_⟩
          rw [hsn, addN, if_pos ⟨of_decide_eq_true dk, of_decide_eq_false dm⟩, List.map_append]
          exact g4
    · have e : i = xs.length := by omega
      subst e
      have d0 : decide (((xs.length : Nat) : Int) < ((xs.length : Nat) : Int)) = false := by simp
      refine W_seq (W_seq (W_region (by simp only [simq, Int.reduceEq, Nat.reduceEqDiff, k8, k11, Int.ofNat_eq_natCast, d0]; rfl) (W_else (by simp only [simq, Int.reduceEq, Nat.reduceEqDiff]) (W_exit ?_))))
      show W E _ _ _ _
      rw [List.take_length] at ho
      refine W_seq (W_region (by simp only [simq, Int.reduceEq, Nat.reduceEqDiff, k10]; rfl) ?_)
      refine W_ret ⟨rfl, _, res_tmp (res_tmp res_nil), o, by simp only [simq, Int.reduceEq, Nat.reduceEqDiff, tupled, he], LB.trans (M.weak LB.le), ?_⟩
      rw [hnm]
      exact ho.sl
end
end
end Go.Ev
