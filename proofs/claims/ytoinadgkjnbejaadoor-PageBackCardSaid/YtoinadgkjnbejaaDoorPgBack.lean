/-
  The law: a document comes back.
-/
import Derived.Test.YtoinadgkjnbejaaDoorPgBackP
import Derived.Test.YtoinadgkjnbejaaDoorPgParses
set_option linter.unusedVariables false
set_option linter.unusedSimpArgs false
namespace Go.Ev
noncomputable section
open Go.Pg
section
variable {E : Env} {f : FuncId} {s t u : St}
set_option maxHeartbeats 16000000 in
theorem PageBack_run (hC : Codes E) (P : Prims E) (hf : Has E f Code.tithinglaw14_PageBack) (G : Gl s) (l : Ln) : Cv E f [strOf l] s fun r t => r = .bool true := by
  refine Cv_of hf.code ?_
  have h0 : (Tr.ofList (.e : Fr) 0 [strOf l]).get 0 = some (strOf l) := rfl
  generalize (Tr.ofList (.e : Fr) 0 [strOf l]) = fr0 at h0
  unfold Code.tithinglaw14_PageBack
  refine W_seq (W_region (by simp only [simq, Int.reduceEq, Nat.reduceEqDiff]; rfl) ?_)
  refine W_seq (W_seq (W_opsM (Wo_run (by simp only [simq, Int.reduceEq, Nat.reduceEqDiff, h0]; rfl) (Wo_call hC.tithinglaw14_long.prim (args := [strOf l]) (by simp only [simq, Int.reduceEq, Nat.reduceEqDiff]; try rfl) ((long_run hC.tithinglaw14_long l).mono ?_)))))
  rintro _ s1 ⟨rfl, l1⟩
  have l1 : Low s.next s s1 := l1
  refine Wo_all rfl ?_
  show W E _ _ _ _
  by_cases hl : 30000 < l.length
  · have d1 : decide (30000 < l.length) = true := decide_eq_true hl
    refine W_then (by simp only [simq, Int.reduceEq, Nat.reduceEqDiff, d1]) ?_
    refine W_seq (W_opsM (Wo_call hC.tithinglaw14_Awake.prim (args := []) (by simp only [simq, Int.reduceEq, Nat.reduceEqDiff]; try rfl) ((Awake_run hC P hC.tithinglaw14_Awake ((G.next l1).skip 0)).mono ?_)))
    rintro _ s2 ⟨rfl, l2⟩
    refine Wo_all (by simp only [simq, Int.reduceEq, Nat.reduceEqDiff]; rfl) ?_
    show W E _ _ _ _
    refine W_ret ⟨rfl, _, res_tmp res_nil, ?_⟩
    simp only [simq, Int.reduceEq, Nat.reduceEqDiff, tupled]
  have d1 : decide (30000 < l.length) = false := decide_eq_false hl
  refine W_else (by simp only [simq, Int.reduceEq, Nat.reduceEqDiff, d1]) (W_skip ?_)
  show W E _ _ _ _
  have hl' : l.length ≤ 100000 := by omega
  have G1 := G.next l1
  have m1 := next_skip s1 8
  refine W_seq (W_opsM (Wo_run (by simp only [simq, Int.reduceEq, Nat.reduceEqDiff, h0]; rfl) (Wo_call hC.page_Parse.prim (args := [strOf l]) (by simp only [simq, Int.reduceEq, Nat.reduceEqDiff, h0]; try rfl) ((Parse_run hC P hC.page_Parse (G1.skip 8) hl').mono ?_))))
  rintro _ s2 ⟨l2, cs, rfl, hM⟩
  have hl2 := l2.2.1
  have K2 : Low s1.next s1 s2 := ((Low.self s1).skip 8).trans (l2.weak (by omega))
  have hcs := hM.len
  refine Wo_run (l := [_, _, _]) (by simp only [simq, Int.reduceEq, Nat.reduceEqDiff, nth0, nth1]; rfl) ?_
  refine Wo_alloc (lo := s1.next) (s0 := s1) K2 (by omega) (by omega) fun s3 B3 n3 f3 => ?_
  obtain ⟨s4, p4, R4, n4, f4⟩ := B3.own.whole rfl hcs
  refine Wo_all (by simp only [simq, Int.reduceEq, Nat.reduceEqDiff, stor_agg, vcells_agg, five hcs, p4]; rfl) ?_
  show W E _ _ _ _
  have B4 : But (s1.next + 5) s2 s4 := ⟨by omega, fun b hb hne => (f4 b hne).trans (f3 b hne)⟩
  have L4 : Low s1.next s1 s4 := K2.trans (But.low B4 (by omega) (by omega))
  have G4 := G1.next L4
  have hL4 := L4.2.1
  have M4 : DocM s4 (s1.next + 8) s4.next cs (docOf l) := ((hM.to (by omega) (Nat.le_refl _)).but B4 (Nat.le_refl _) (.inl (by omega))).to (Nat.le_refl _) (by omega)
  refine W_gen (T := [(0, strOf l), (3, ptr (s1.next + 5) 0), (4, .int .i64 (errOf l))]) (all_cons (by simp only [simq, Int.reduceEq, Nat.reduceEqDiff, h0]) (all_cons (by simp only [simq, Int.reduceEq, Nat.reduceEqDiff]) (all_cons (by simp only [simq, Int.reduceEq, Nat.reduceEqDiff]) all_nil))) fun fr2 gf => ?_
  have k0 := gf _ (.head _)
  have k3 := gf _ (.tail _ (.head _))
  have k4 := gf _ (.tail _ (.tail _ (.head _)))
  simp only at k0 k3 k4
  clear gf h0
  have hself : ∀ n : Int, decide (n = n) = true := fun n => decide_eq_true rfl
  cases hd : docR l with
  | none =>
    have he := (doc_none hd).1
    rw [he] at k4
    have d1 : decide ((3 : Int) = 0) = false := by decide
    refine W_seq (W_seq (W_region (by simp only [simq, Int.reduceEq, Nat.reduceEqDiff, k4, d1]; rfl) (W_then (by simp only [simq, Int.reduceEq, Nat.reduceEqDiff]; try rfl) ?_)))
    refine W_seq (W_opsM (Wo_run (by simp only [simq, Int.reduceEq, Nat.reduceEqDiff, k4, hself]; rfl) (Wo_gt (by simp only [simq, Int.reduceEq, Nat.reduceEqDiff]) (Wo_call hC.tithinglaw14_Awake.prim (args := []) (by simp only [simq, Int.reduceEq, Nat.reduceEqDiff]; try rfl) ((Awake_run hC P hC.tithinglaw14_Awake (s := s4.skip 0) (G4.skip 0)).mono ?_)))))
    rintro _ s5 ⟨rfl, l5⟩
    refine Wo_all (by simp only [simq, Int.reduceEq, Nat.reduceEqDiff]; rfl) ?_
    show W E _ _ _ _
    refine W_ret ⟨rfl, _, res_tmp res_nil, ?_⟩
    simp only [simq, Int.reduceEq, Nat.reduceEqDiff, tupled]
  | some d =>
  have he := (doc_some hd).1
  rw [he] at k4
  rw [(doc_some hd).2] at M4
  have d1 : decide ((0 : Int) = 0) = true := by decide
  refine W_seq (W_seq (W_region (by simp only [simq, Int.reduceEq, Nat.reduceEqDiff, k4, d1]; rfl) (W_else (by simp only [simq, Int.reduceEq, Nat.reduceEqDiff]; try rfl) (W_skip ?_))))
  show W E _ _ _ _
  have htx := text_doc hd
  have hlt : (textD d).length ≤ 100000 := by rw [htx]; exact hl'
  have hft := doc_fits hd hl'
  have hval : docR (textD d) = some d := by rw [htx]; exact hd
  have r4 : s4.row ⟨s1.next + 5, 0, none⟩ 5 = some cs := R4.row hcs.symm
  refine W_seq (W_opsM (Wo_run (by simp only [simq, Int.reduceEq, Nat.reduceEqDiff, k3, r4]; rfl) (Wo_call hC.page_Format.prim (args := [.agg ⟨cs⟩]) (by simp only [simq, Int.reduceEq, Nat.reduceEqDiff]; try rfl) ((PFormat_run hC P hC.page_Format (s := s4) G4 M4.docV (Nat.le_refl _) hft hlt).mono ?_))))
  rintro _ s5 ⟨rfl, l5⟩
  have l5 : Low s4.next s4 s5 := l5
  have hl5 := l5.2.1
  have G5 := G4.next l5
  rw [fmtOf, if_pos hval, htx]
  refine Wo_all (by simp only [simq, Int.reduceEq, Nat.reduceEqDiff, nth0, nth1]; rfl) ?_
  show W E _ _ _ _
  have r5 : s5.row ⟨s1.next + 5, 0, none⟩ 5 = some cs := (R4.low l5 (by omega)).row hcs.symm
  have M5 := M4.low l5 (Nat.le_refl _)
  have hsl : decide (l = l) = true := decide_eq_true rfl
  refine W_seq (W_seq (W_opsM (Wo_run (by simp only [simq, Int.reduceEq, Nat.reduceEqDiff, k0, k3, d1, hsl, r5]; rfl) (Wo_gt (by simp only [simq, Int.reduceEq, Nat.reduceEqDiff]) (Wo_call hC.page_Valid.prim (args := [.agg ⟨cs⟩]) (by simp only [simq, Int.reduceEq, Nat.reduceEqDiff]; try rfl) ((PValid_run hC P hC.page_Valid (s := s5) G5 M5.docV hl5 hft hlt).mono ?_))))))
  rintro _ s6 ⟨rfl, l6⟩
  have l6 : Low s5.next s5 s6 := l6
  have hl6 := l6.2.1
  have G6 := G5.next l6
  rw [show decide (docR (textD d) = some d) = true from decide_eq_true hval]
  refine Wo_all (by simp only [simq, Int.reduceEq, Nat.reduceEqDiff]; rfl) (W_else (by simp only [simq, Int.reduceEq, Nat.reduceEqDiff]) (W_skip ?_))
  show W E _ _ _ _
  refine W_seq (W_region (by simp only [simq, Int.reduceEq, Nat.reduceEqDiff]; rfl) ?_)
  refine W_seq (W_seq (W_region (by simp only [simq, Int.reduceEq, Nat.reduceEqDiff]; rfl) (W_block ?_)))
  have R6 := (R4.low l5 (by omega)).low l6 (by omega)
  obtain ⟨h, p, g, tr, ecs, -, -, hg, -⟩ := M4.docV
  obtain ⟨gp, gc, rfl⟩ := hg.parts
  have c3 : s6.cell ⟨s1.next + 5, 3, none⟩ = some (.slice gp d.pages.length gc) := by rw [R6.cell 3, ecs]; rfl
  have hN := (doc_wf hd).1.few
  refine W_inv (fun m fr t => ∃ i v, m = d.pages.length - i ∧ i ≤ d.pages.length ∧ Low s6.next s6 t ∧ fr.get 0 = some (strOf l) ∧ fr.get 3 = some (ptr (s1.next + 5) 0) ∧ fr.get 7 = some (.int .i64 (i : Nat)) ∧ fr.get 6 = some v ∧ Gr t s6.next 1 v (((List.range i).map fun (i : Nat) => (i : Int) + 1).map (Value.int .i64))) ?_ d.pages.length _ s6 ⟨0, .slice none 0 0, rfl, Nat.zero_le _, Low.self s6, by simp only [simq, Int.reduceEq, Nat.reduceEqDiff, k0], by simp only [simq, Int.reduceEq, Nat.reduceEqDiff, k3], by simp only [simq, Int.reduceEq, Nat.reduceEqDiff]; rfl, by simp only [simq, Int.reduceEq, Nat.reduceEqDiff], .nil⟩
  rintro m fr t ⟨i, v, rfl, hi, L, k0, k3, k7, k6, hv⟩
  unfold Code.tithinglaw14_PageBack_l0
  have hL := L.2.1
  have c3t : t.cell ⟨s1.next + 5, 3, none⟩ = some (.slice gp d.pages.length gc) := by rw [ht_cell L (by omega)]; exact c3
  by_cases hlt' : i < d.pages.length
  · have d0 : decide (((i : Nat) : Int) < ((d.pages.length : Nat) : Int)) = true := by simp; omega
    have e1 : wr .i64 ((i : Int) + 1) = ((i + 1 : Nat) : Int) := by rw [wr_i64 (by omega) (by omega)]; omega
    refine W_seq (W_seq (W_region (by simp only [simq, Int.reduceEq, Nat.reduceEqDiff, k3, k7, c3t, Int.ofNat_eq_natCast, d0]; rfl) (W_then (by simp only [simq, Int.reduceEq, Nat.reduceEqDiff]) (W_skip ?_))))
    have m2 := next_skip t 6
    refine W_seq (W_block (W_ops (Wo_run (l := [_, _, _]) (by simp only [simq, Int.reduceEq, Nat.reduceEqDiff, k6, k7, e1]; rfl) ?_)))
    refine Wo_buildSlice (size := 1) (lo := t.next) (n := 1) (cs := [.int .i64 ((i + 1 : Nat) : Int)]) (by simp only [simq, Int.reduceEq, Nat.reduceEqDiff]; rfl) rfl (Nat.le_add_right _ _) (by omega) (by decide) ?_
    rintro t2 ⟨D2, -⟩ l2' hs2
    have L2 : Low t.next t t2 := ((Low.self t).skip 6).trans l2'
    refine Wo_append (lo := s6.next) (by simp only [simq, Int.reduceEq, Nat.reduceEqDiff]) (by simp only [simq, Int.reduceEq, Nat.reduceEqDiff]) (hv.low L2 (Nat.le_refl _)) (Nat.le_trans hL L2.2.1) D2.feed (by decide) (by simp only [List.length_map, List.length_range, List.length_cons, List.length_nil]; unfold room; omega) ?_
    rintro v3 t3 g3 L3 -
    refine Wo_all (by simp only [simq, Int.reduceEq, Nat.reduceEqDiff]; rfl) ?_
    show W E _ _ _ _
    refine W_region (by simp only [simq, Int.reduceEq, Nat.reduceEqDiff, k7, e1]; rfl) ⟨d.pages.length - (i + 1), by omega, i + 1, v3, rfl, by omega, (L.trans (L2.weak hL)).trans L3, by simp only [simq, Int.reduceEq, Nat.reduceEqDiff, k0], by simp only [simq, Int.reduceEq, Nat.reduceEqDiff, k3], by simp only [simq, Int.reduceEq, Nat.reduceEqDiff], by simp only [simq, Int.reduceEq, Nat.reduceEqDiff], ?_⟩
    rw [List.range_succ, List.map_append, List.map_append]
    exact g3
  have e : i = d.pages.length := by omega
  subst e
  have d0 : decide (((d.pages.length : Nat) : Int) < ((d.pages.length : Nat) : Int)) = false := by simp
  refine W_seq (W_seq (W_region (by simp only [simq, Int.reduceEq, Nat.reduceEqDiff, k3, k7, c3t, Int.ofNat_eq_natCast, d0]; rfl) (W_else (by simp only [simq, Int.reduceEq, Nat.reduceEqDiff]) (W_exit ?_))))
  show W E _ _ _ _
  have G7 := G6.next L
  have hvz : IntsZ t t.next v ((List.range d.pages.length).map fun (i : Nat) => (i : Int) + 1) := hv.sl
  obtain ⟨vp, vn, vc, rfl, hvn⟩ := hvz.parts
  refine W_seq (W_opsM (Wo_run (by simp only [simq, Int.reduceEq, Nat.reduceEqDiff, k0, k6]; rfl) (Wo_call hC.page_Pick.prim (args := [strOf l, .slice vp vn vc]) (by simp only [simq, Int.reduceEq, Nat.reduceEqDiff, k0, k6]; try rfl) ((Pick_run hC P hC.page_Pick (s := t) G7 hl' hvz (Nat.le_refl _) (by simp; omega)).mono ?_))))
  rintro _ s8 ⟨rfl, l8⟩
  have G8 := G7.next l8
  rw [pick_all hd]
  refine Wo_all (by simp only [simq, Int.reduceEq, Nat.reduceEqDiff, nth0, nth1]; rfl) ?_
  show W E _ _ _ _
  have few : ∀ {l : Ln} {d : Doc}, docR l = some d → d.pages.length ≤ 999 := fun h => (doc_wf h).1.few
  refine W_seq (W_opsM (Wo_run (by simp only [simq, Int.reduceEq, Nat.reduceEqDiff, k0]; rfl) (Wo_call hC.page_Reverse.prim (args := [strOf l]) (by simp only [simq, Int.reduceEq, Nat.reduceEqDiff, k0]; try rfl) ((Reverse_run hC P hC.page_Reverse (s := s8) G8 hl' (fun _ h => few h)).mono ?_))))
  rintro _ s9 ⟨rfl, l9⟩
  have G9 := G8.next l9
  rw [(back_once hd).1]
  refine Wo_all (by simp only [simq, Int.reduceEq, Nat.reduceEqDiff, nth0, nth1]; rfl) ?_
  show W E _ _ _ _
  have htl : (textD (turned d)).length ≤ 100000 := by rw [turned_size, htx]; exact hl'
  refine W_seq (W_opsM (Wo_run (by simp only [simq, Int.reduceEq, Nat.reduceEqDiff]; rfl) (Wo_call hC.page_Reverse.prim (args := [strOf (textD (turned d))]) (by simp only [simq, Int.reduceEq, Nat.reduceEqDiff]; try rfl) ((Reverse_run hC P hC.page_Reverse (s := s9) G9 htl (fun _ h => few h)).mono ?_))))
  rintro _ s10 ⟨rfl, l10⟩
  have G10 := G9.next l10
  rw [back_twice hd]
  refine Wo_all (by simp only [simq, Int.reduceEq, Nat.reduceEqDiff, nth0, nth1]; rfl) ?_
  show W E _ _ _ _
  refine W_seq (W_opsM (Wo_run (by simp only [simq, Int.reduceEq, Nat.reduceEqDiff, k0, hself, hsl]; rfl) (Wo_gt (by simp only [simq, Int.reduceEq, Nat.reduceEqDiff]) (Wo_call hC.tithinglaw14_Awake.prim (args := []) (by simp only [simq, Int.reduceEq, Nat.reduceEqDiff]; try rfl) ((Awake_run hC P hC.tithinglaw14_Awake (s := s10) G10).mono ?_)))))
  rintro _ s11 ⟨rfl, l11⟩
  refine Wo_all (by simp only [simq, Int.reduceEq, Nat.reduceEqDiff]; rfl) ?_
  show W E _ _ _ _
  refine W_ret ⟨rfl, _, res_tmp res_nil, ?_⟩
  simp only [simq, Int.reduceEq, Nat.reduceEqDiff, tupled]
end
end
end Go.Ev
