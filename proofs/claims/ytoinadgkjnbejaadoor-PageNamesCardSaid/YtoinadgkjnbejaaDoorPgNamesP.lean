/-
  The program's names.
-/
import Derived.Test.YtoinadgkjnbejaaDoorPgNames
set_option linter.unusedVariables false
set_option linter.unusedSimpArgs false
namespace Go.Ev
noncomputable section
open Go.Pg
section
variable {E : Env} {f : FuncId} {s t u : St}
theorem take_flat {LL : List (List Ln)} {i : Nat} (h : i < LL.length) : (LL.take (i + 1)).flatten = (LL.take i).flatten ++ LL[i] := by
  rw [List.take_succ_eq_append_getElem h, List.flatten_append, List.flatten_cons, List.flatten_nil, List.append_nil]
theorem flat_part {LL : List (List Ln)} {i : Nat} (h : i < LL.length) (j : Nat) : ((LL.take i).flatten ++ LL[i].take j).length ≤ LL.flatten.length := by
  have h1 : LL.flatten = (LL.take i).flatten ++ (LL[i] ++ (LL.drop (i + 1)).flatten) := by
    conv => lhs; rw [← List.take_append_drop i LL, List.flatten_append, List.drop_eq_getElem_cons h, List.flatten_cons]
  rw [h1]
  simp only [List.length_append, List.length_take]
  omega
set_option maxHeartbeats 8000000 in
theorem names_run (hC : Codes E) (P : Prims E) (hf : Has E f Code.page_names) (G : Gl s) {k : Nat} (hk : k ≤ 9) {l : Ln} (hl : l.length ≤ 100000) : Cv E f [strOf l, strOf (wordOf k)] s (NamesPost s k l) := by
  refine Cv_of hf.code ?_
  have h0 : (Tr.ofList (.e : Fr) 0 [strOf l, strOf (wordOf k)]).get 0 = some (strOf l) := rfl
  have h1 : (Tr.ofList (.e : Fr) 0 [strOf l, strOf (wordOf k)]).get 1 = some (strOf (wordOf k)) := rfl
  generalize (Tr.ofList (.e : Fr) 0 [strOf l, strOf (wordOf k)]) = fr0 at h0 h1
  unfold Code.page_names
  refine W_seq (W_region (by simp only [simq, Int.reduceEq, Nat.reduceEqDiff]; rfl) ?_)
  have K1 : Low s.next s (s.skip 8) := (Low.self s).skip 8
  have m1 := next_skip s 8
  refine W_seq (W_opsM (Wo_run (by simp only [simq, Int.reduceEq, Nat.reduceEqDiff, h0]; rfl) (Wo_call hC.page_Parse.prim (args := [strOf l]) (by simp only [simq, Int.reduceEq, Nat.reduceEqDiff, h0]; try rfl) ((Parse_run hC P hC.page_Parse (G.skip 8) hl).mono ?_))))
  rintro _ s2 ⟨l2, cs, rfl, hM⟩
  have l2 : Low (s.skip 8).next (s.skip 8) s2 := l2
  have hl2 := l2.2.1
  have K2 : Low s.next s s2 := K1.trans (l2.weak (by omega))
  have hcs := hM.len
  refine Wo_run (l := [_, _, _]) (by simp only [simq, Int.reduceEq, Nat.reduceEqDiff, nth0, nth1]; rfl) ?_
  refine Wo_alloc (lo := s.next) (s0 := s) K2 (by omega) (by omega) fun s3 B3 n3 f3 => ?_
  obtain ⟨s4, p4, R4, n4, f4⟩ := B3.own.whole rfl hcs
  refine Wo_all (by simp only [simq, Int.reduceEq, Nat.reduceEqDiff, stor_agg, vcells_agg, five hcs, p4]; rfl) ?_
  show W E _ _ _ _
  have B4 : But (s.next + 5) s2 s4 := ⟨by omega, fun b hb hne => (f4 b hne).trans (f3 b hne)⟩
  have L4 : Low s.next s s4 := K2.trans (But.low B4 (by omega) (by omega))
  have M4 : DocM s4 (s.next + 8) s4.next cs (docOf l) := ((hM.to (by omega) (Nat.le_refl _)).but B4 (Nat.le_refl _) (.inl (by omega))).to (Nat.le_refl _) (by omega)
  obtain ⟨h, p, g, tr, rfl, -, hp, hg, -⟩ := M4.docV
  have few := docOf_few hl
  generalize hdd : docOf l = d at *
  clear hM
  have a2 : s4.cell ⟨s.next + 5, 2, none⟩ = some p := R4.cell 2
  have a3 : s4.cell ⟨s.next + 5, 3, none⟩ = some g := R4.cell 3
  obtain ⟨gp, gc, rfl⟩ := hg.parts
  obtain ⟨pp, pn, pc, rfl, hpn⟩ := hp.parts
  refine W_gen (T := [(1, strOf (wordOf k)), (6, ptr (s.next + 5) 0), (7, .int .i64 (errOf l))]) (all_cons (by simp only [simq, Int.reduceEq, Nat.reduceEqDiff, h1]) (all_cons (by simp only [simq, Int.reduceEq, Nat.reduceEqDiff]) (all_cons (by simp only [simq, Int.reduceEq, Nat.reduceEqDiff]) all_nil))) fun fr2 gf => ?_
  have k1 := gf _ (.head _)
  have k6 := gf _ (.tail _ (.head _))
  have k7 := gf _ (.tail _ (.tail _ (.head _)))
  simp only at k1 k6 k7
  clear gf h0 h1
  refine W_seq (W_region (by simp only [simq, Int.reduceEq, Nat.reduceEqDiff]; rfl) ?_)
  have m4 := next_skip s4 8
  refine W_seq (W_seq (W_ops (Wo_run (l := [_, _]) (by simp only [simq, Int.reduceEq, Nat.reduceEqDiff, k6, a2]; rfl) ?_)))
  refine Wo_buildSlice (size := 1) (lo := s4.next) (n := 1) (cs := [.slice pp pn pc]) (by simp only [simq, Int.reduceEq, Nat.reduceEqDiff]; rfl) rfl (Nat.le_add_right _ _) (by omega) (by decide) ?_
  rintro s5 ⟨D5, D5'⟩ l5 hs5
  have L5 : Low s4.next s4 s5 := ((Low.self s4).skip 8).trans l5
  have n5 : s5.next = s4.next + 8 := by rw [hs5, St.next_set]; exact m4
  have a3' : s5.cell ⟨s.next + 5, 3, none⟩ = some (.slice gp d.pages.length gc) := (R4.low L5 (by omega)).cell 3
  refine Wo_run (l := [_, _]) (by simp only [simq, Int.reduceEq, Nat.reduceEqDiff, k6, a3']; rfl) ?_
  obtain ⟨vs, v1, v2, v3⟩ := hg.low L5 (Nat.le_refl _)
  have hfew := few.n
  have hgw := few.g
  refine Wo_append (lo := s4.next + 2) (by simp only [simq, Int.reduceEq, Nat.reduceEqDiff]) (by simp only [simq, Int.reduceEq, Nat.reduceEqDiff]) D5' (by omega) v1.feed (by decide) (by simp [room]; omega) ?_
  rintro v' s6 g6 L6 -
  have hL6 := L6.2.1
  have LL6 : Lists s6 s6.next v' (d.prologue :: d.pages) := by
    refine ⟨_, g6.sl, by simp; omega, fun i x q hx hq => ?_⟩
    cases i with
    | zero =>
      cases hx; cases hq
      exact (((hp.low L5 (Nat.le_refl _)).low L6 (by omega)).wide (by omega))
    | succ i =>
      exact ((v3 i x q hx hq).low L6 (by omega)).wide (by omega)
  obtain ⟨q, c, rfl⟩ := LL6.parts
  refine Wo_all (by simp only [simq, Int.reduceEq, Nat.reduceEqDiff]; rfl) ?_
  show W E _ _ _ _
  have hall : allOf d = (d.prologue :: d.pages).flatten := by unfold allOf; rw [List.flatten_cons]
  have hlens : (d.prologue :: d.pages).length = d.pages.length + 1 := rfl
  rw [hall] at hfew
  have hx' := few.x
  rw [hall] at hx'
  show W E _ _ _ _
  have LA : Low s.next s s6 := L4.trans ((L5.weak L4.2.1).trans (L6.weak (by omega)))
  have G6 := G.next LA
  generalize hLL : d.prologue :: d.pages = LL at *
  refine W_gen (T := [(1, strOf (wordOf k)), (7, .int .i64 (errOf l)), (8, .slice none 0 0), (25, .slice q LL.length c), (26, .int .i64 (LL.length : Nat)), (27, .int .i64 0)]) (all_cons (by simp only [simq, Int.reduceEq, Nat.reduceEqDiff, k1]) (all_cons (by simp only [simq, Int.reduceEq, Nat.reduceEqDiff, k7]) (all_cons (by simp only [simq, Int.reduceEq, Nat.reduceEqDiff]) (all_cons (by simp only [simq, Int.reduceEq, Nat.reduceEqDiff]) (all_cons (by simp only [simq, Int.reduceEq, Nat.reduceEqDiff]; rfl) (all_cons (by simp only [simq, Int.reduceEq, Nat.reduceEqDiff]) all_nil)))))) fun fr3 gf => ?_
  clear k1 k7 k6
  have k1 := gf _ (.head _)
  have k7 := gf _ (.tail _ (.head _))
  have k8 := gf _ (.tail _ (.tail _ (.head _)))
  have k25 := gf _ (.tail _ (.tail _ (.tail _ (.head _))))
  have k26 := gf _ (.tail _ (.tail _ (.tail _ (.tail _ (.head _)))))
  have k27 := gf _ (.tail _ (.tail _ (.tail _ (.tail _ (.tail _ (.head _))))))
  simp only at k1 k7 k8 k25 k26 k27
  clear gf
  refine W_block ?_
  unfold Code.page_names_l1
  refine W_for (n := LL.length) (fun i fr t => Low s6.next s6 t ∧ fr.get 1 = some (strOf (wordOf k)) ∧ fr.get 7 = some (.int .i64 (errOf l)) ∧ fr.get 25 = some (.slice q LL.length c) ∧ ∃ ov, fr.get 8 = some ov ∧ Gr t s6.next 1 ov ((nmL k (LL.take i).flatten).map strOf)) (by omega) (by decide) ?_ ?_ ?_ 0 (Nat.zero_le _) ⟨Low.self s6, k1, k7, k25, _, k8, .nil⟩ k27 k26
  · rintro i fr t x v hx ⟨e0, e1, e2, e3, ov, e4, e5⟩
    refine ⟨e0, ?_, ?_, ?_, ov, ?_, e5⟩ <;> rcases hx with rfl | rfl | rfl <;> simp only [simq, Int.reduceEq, Nat.reduceEqDiff, e1, e2, e3, e4]
  · rintro i fr t hlt ⟨L, k1, k7, k25, ov, k8, hgr⟩ k27 k26
    obtain ⟨a, w, rfl, hca, ha⟩ := (LL6.low L (Nat.le_refl _)).at.2 i hlt
    have hb1 : Nat.blt i LL.length = true := by rw [Nat.blt_eq]; exact hlt
    have htf := take_flat hlt
    have hpart := flat_part hlt
    have hxm : ∀ x ∈ LL[i], x.length ≤ 100000 := fun x hx => hx' x (List.mem_flatten.2 ⟨_, List.getElem_mem hlt, hx⟩)
    generalize LL[i] = ls at *
    obtain ⟨wp, wn, wc, rfl, hwn⟩ := ha.parts
    rw [List.length_map, Nat.mul_one] at hwn
    subst hwn
    have hls := hpart ls.length
    rw [List.take_length, List.length_append] at hls
    refine W_seq (W_region (by simp only [simq, Int.reduceEq, Nat.reduceEqDiff, k25, k27, hb1, hca]; rfl) ?_)
    refine W_seq (W_region (by simp only [simq, Int.reduceEq, Nat.reduceEqDiff]; rfl) (W_block ?_))
    unfold Code.page_names_l0
    have hwd := fun x : Ln => kd_word x hk
    have ht6 := L.2.1
    refine W_for (n := ls.length) (fun j fr u => Low s6.next t u ∧ fr.get 1 = some (strOf (wordOf k)) ∧ fr.get 7 = some (.int .i64 (errOf l)) ∧ fr.get 25 = some (.slice (some a) LL.length c) ∧ fr.get 27 = some (.int .i64 (i : Nat)) ∧ fr.get 26 = some (.int .i64 (LL.length : Nat)) ∧ fr.get 31 = some (.slice wp ls.length wc) ∧ ∃ ov, fr.get 8 = some ov ∧ Gr u s6.next 1 ov ((nmL k ((LL.take i).flatten ++ ls.take j)).map strOf)) (by omega) (by decide) ?_ ?_ ?_ 0 (Nat.zero_le _) ⟨Low.refl ht6, by simp only [simq, Int.reduceEq, Nat.reduceEqDiff, k1], by simp only [simq, Int.reduceEq, Nat.reduceEqDiff, k7], by simp only [simq, Int.reduceEq, Nat.reduceEqDiff, k25], by simp only [simq, Int.reduceEq, Nat.reduceEqDiff, k27], by simp only [simq, Int.reduceEq, Nat.reduceEqDiff, k26], by simp only [simq, Int.reduceEq, Nat.reduceEqDiff], ov, by simp only [simq, Int.reduceEq, Nat.reduceEqDiff, k8], by rw [List.take_zero, List.append_nil]; exact hgr⟩ (by simp only [simq, Int.reduceEq, Nat.reduceEqDiff]; rfl) (by simp only [simq, Int.reduceEq, Nat.reduceEqDiff]; rfl)
    · rintro j fr t x v hx ⟨e0, e1, e2, e3, e6, e7, e8, ov, e4, e5⟩
      refine ⟨e0, ?_, ?_, ?_, ?_, ?_, ?_, ov, ?_, e5⟩ <;> rcases hx with rfl | rfl | rfl <;> simp only [simq, Int.reduceEq, Nat.reduceEqDiff, e1, e2, e3, e4, e6, e7, e8]
    · rintro j fr u hlj ⟨M, k1, k7, k25, k27, k26, k31, ov, k8, hgr⟩ k33 k32
      have hM := M.2.1
      obtain ⟨b, rfl, hcb⟩ := Sl.cell (ha.low M (Nat.le_refl _)) (i := j) (by rw [List.length_map]; omega)
      rw [List.getElem?_map, List.getElem?_eq_getElem hlj, Option.map_some] at hcb
      have t1 : ls.take (j + 1) = ls.take j ++ [ls[j]] := List.take_succ_eq_append_getElem hlj
      have hxl := hxm _ (List.getElem_mem hlj)
      have hb2 : Nat.blt j ls.length = true := by rw [Nat.blt_eq]; exact hlj
      have hsn := nmL_snoc k ((LL.take i).flatten ++ ls.take j) ls[j]
      rw [List.append_assoc, ← t1] at hsn
      have hnl := nmL_len k ((LL.take i).flatten ++ ls.take j)
      have hpj := hpart j
      generalize ls[j] = x at *
      have hwx := hwd x
      generalize nmL k ((LL.take i).flatten ++ ls.take j) = out at *
      refine W_seq (W_region (by simp only [simq, Int.reduceEq, Nat.reduceEqDiff, k31, k33, hb2, hcb]; rfl) ?_)
      refine W_seq (W_opsM (Wo_run (by simp only [simq, Int.reduceEq, Nat.reduceEqDiff]; rfl) (Wo_call hC.page_comment.prim (args := [strOf x]) (by simp only [simq, Int.reduceEq, Nat.reduceEqDiff]; try rfl) ((comment_run hC P hC.page_comment (s := u.skip 0) ((G6.next (L.trans M)).skip 0) x hxl).mono ?_))))
      rintro _ u2 ⟨rfl, l2⟩
      have l2 : Low u.next u u2 := l2
      have hl2 := l2.2.1
      refine Wo_all (by simp only [simq, Int.reduceEq, Nat.reduceEqDiff, nth0, nth1]; rfl) ?_
      show W E _ _ _ _
      have hgr2 := hgr.low l2 (Nat.le_refl _)
      have M2 : Low s6.next t u2 := M.trans (l2.weak M.le)
      cases dk : decide ((kd x).1 = k) with
      | false =>
        rw [dk] at hwx
        refine W_seq (W_opsM (Wo_all (by simp only [simq, Int.reduceEq, Nat.reduceEqDiff, k1, k8, hwx]; rfl) (W_else (by simp only [simq, Int.reduceEq, Nat.reduceEqDiff]) (W_skip ?_))))
        refine ⟨⟨M2, by simp only [simq, Int.reduceEq, Nat.reduceEqDiff, k1], by simp only [simq, Int.reduceEq, Nat.reduceEqDiff, k7], by simp only [simq, Int.reduceEq, Nat.reduceEqDiff, k25], by simp only [simq, Int.reduceEq, Nat.reduceEqDiff, k27], by simp only [simq, Int.reduceEq, Nat.reduceEqDiff, k26], by simp only [simq, Int.reduceEq, Nat.reduceEqDiff, k31], ov, by simp only [simq, Int.reduceEq, Nat.reduceEqDiff, k8], ?_⟩, by simp only [simq, Int.reduceEq, Nat.reduceEqDiff, k33], by simp only [simq, Int.reduceEq, Nat.reduceEqDiff, k32]⟩
        rw [hsn, addN, if_neg fun h => of_decide_eq_false dk h.1]
        exact hgr2
      | true =>
        rw [dk] at hwx
        refine W_seq (W_opsM (Wo_run (by simp only [simq, Int.reduceEq, Nat.reduceEqDiff, k1, k8, hwx]; rfl) (Wo_gt (by simp only [simq, Int.reduceEq, Nat.reduceEqDiff]) (Wo_call hC.slices_Contains_string_string.prim (args := [ov, strOf (kd x).2]) (by simp only [simq, Int.reduceEq, Nat.reduceEqDiff]; try rfl) ((Contains_run hC hC.slices_Contains_string_string (hi := u2.next) (l := out) hgr2.sl (by omega) _).mono ?_)))))
        rintro _ u3 ⟨hu3, rfl⟩
        rw [hu3]
        clear hu3 u3
        cases dm : decide ((kd x).2 ∈ out) with
        | true =>
          refine Wo_all (by simp only [simq, Int.reduceEq, Nat.reduceEqDiff, dm]; rfl) (W_else (by simp only [simq, Int.reduceEq, Nat.reduceEqDiff]) (W_skip ?_))
          refine ⟨⟨M2, by simp only [simq, Int.reduceEq, Nat.reduceEqDiff, k1], by simp only [simq, Int.reduceEq, Nat.reduceEqDiff, k7], by simp only [simq, Int.reduceEq, Nat.reduceEqDiff, k25], by simp only [simq, Int.reduceEq, Nat.reduceEqDiff, k27], by simp only [simq, Int.reduceEq, Nat.reduceEqDiff, k26], by simp only [simq, Int.reduceEq, Nat.reduceEqDiff, k31], ov, by simp only [simq, Int.reduceEq, Nat.reduceEqDiff, k8], ?_⟩, by simp only [simq, Int.reduceEq, Nat.reduceEqDiff, k33], by simp only [simq, Int.reduceEq, Nat.reduceEqDiff, k32]⟩
          rw [hsn, addN, if_neg fun h => h.2 (of_decide_eq_true dm)]
          exact hgr2
        | false =>
          refine Wo_all (by simp only [simq, Int.reduceEq, Nat.reduceEqDiff, dm]; rfl) (W_then (by simp only [simq, Int.reduceEq, Nat.reduceEqDiff]) ?_)
          have m2 := next_skip u2 5
          refine W_ops (Wo_run (l := [_, _]) (by simp only [simq, Int.reduceEq, Nat.reduceEqDiff, k8]; rfl) ?_)
          refine Wo_buildSlice (size := 1) (lo := u2.next) (n := 1) (cs := [strOf (kd x).2]) (by simp only [simq, Int.reduceEq, Nat.reduceEqDiff]; rfl) rfl (Nat.le_add_right _ _) (by show u2.next + 2 < (u2.skip 5).next; omega) (by decide) ?_
          rintro u3 ⟨D3, -⟩ l3 hs3
          have L3 : Low u2.next u2 u3 := ((Low.self u2).skip 5).trans l3
          refine Wo_append (lo := s6.next) (by simp only [simq, Int.reduceEq, Nat.reduceEqDiff]) (by simp only [simq, Int.reduceEq, Nat.reduceEqDiff]) (hgr2.low L3 (Nat.le_refl _)) (Nat.le_trans M2.le L3.2.1) D3.feed (by decide) (by simp [room]; omega) ?_
          rintro w4 u4 g4 L4 -
          refine Wo_all (by simp only [simq, Int.reduceEq, Nat.reduceEqDiff]; rfl) ?_
          refine ⟨⟨(M2.trans (L3.weak M2.le)).trans L4, by simp only [simq, Int.reduceEq, Nat.reduceEqDiff, k1], by simp only [simq, Int.reduceEq, Nat.reduceEqDiff, k7], by simp only [simq, Int.reduceEq, Nat.reduceEqDiff, k25], by simp only [simq, Int.reduceEq, Nat.reduceEqDiff, k27], by simp only [simq, Int.reduceEq, Nat.reduceEqDiff, k26], by simp only [simq, Int.reduceEq, Nat.reduceEqDiff, k31], w4, by simp only [simq, Int.reduceEq, Nat.reduceEqDiff], ?_⟩, by simp only [simq, Int.reduceEq, Nat.reduceEqDiff, k33], by simp only [simq, Int.reduceEq, Nat.reduceEqDiff, k32]⟩
          rw [hsn, addN, if_pos ⟨of_decide_eq_true dk, of_decide_eq_false dm⟩, List.map_append]
          exact g4
    · rintro fr u ⟨M, k1, k7, k25, k27, k26, k31, ov, k8, hgr⟩
      rw [List.take_length, ← htf] at hgr
      exact ⟨⟨L.trans M, k1, k7, k25, ov, k8, hgr⟩, k27, k26⟩
  · rintro fr t ⟨L, k1, k7, k25, ov, k8, hgr⟩
    rw [List.take_length, ← hall] at hgr
    show W E _ _ _ _
    refine W_seq (W_region (by simp only [simq, Int.reduceEq, Nat.reduceEqDiff, k7, k8]; rfl) ?_)
    refine W_ret ⟨rfl, _, res_tmp (res_tmp res_nil), ov, by simp only [simq, Int.reduceEq, Nat.reduceEqDiff, tupled], LA.trans (L.weak LA.le), ?_⟩
    rw [hdd]
    exact hgr.sl
end
end
end Go.Ev
