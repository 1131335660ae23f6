/-
  The law of a text's document, its title and its pages.
-/
import Derived.Test.YtoinadgkjnbejaaDoorPgTop
set_option linter.unusedVariables false
set_option linter.unusedSimpArgs false
namespace Go.Ev
noncomputable section
open Go.Pg
def awakeText : Ln := [37, 33, 68, 111, 99, 10, 37, 37, 69, 110, 100, 72, 101, 97, 100, 101, 114, 10, 37, 37, 80, 97, 103, 101, 58, 32, 49, 10, 120, 10, 37, 37, 84, 114, 97, 105, 108, 101, 114, 10, 37, 37, 69, 79, 70, 10]
theorem awake_doc : docR awakeText = some ⟨[], [], [], [[[120]]], []⟩ := by decide +kernel
section
variable {E : Env} {f : FuncId} {s t u : St}
theorem long_run (hf : Has E f Code.tithinglaw14_long) (l : Ln) : Cv E f [strOf l] s fun r t => r = .bool (decide (30000 < l.length)) ∧ Low s.next s t := by
  refine Cv_of hf.code ?_
  have h0 : (Tr.ofList (.e : Fr) 0 [strOf l]).get 0 = some (strOf l) := rfl
  generalize (Tr.ofList (.e : Fr) 0 [strOf l]) = fr0 at h0
  unfold Code.tithinglaw14_long
  refine W_seq (W_region (by simp only [simq, Int.reduceEq, Nat.reduceEqDiff]; rfl) ?_)
  have d1 : decide ((30000 : Int) < ((l.length : Nat) : Int)) = decide (30000 < l.length) := by rw [decide_eq_decide]; omega
  refine W_seq (W_region (by simp only [simq, Int.reduceEq, Nat.reduceEqDiff, h0, lenL_eq, Int.ofNat_eq_natCast, d1]; rfl) (W_ret ⟨rfl, _, res_tmp res_nil, ?_, Low.self s⟩))
  simp only [simq, Int.reduceEq, Nat.reduceEqDiff, tupled]
set_option maxHeartbeats 4000000 in
theorem Awake_run (hC : Codes E) (P : Prims E) (hf : Has E f Code.tithinglaw14_Awake) (G : Gl s) : Cv E f [] s fun r t => r = .bool true ∧ Low s.next s t := by
  refine Cv_of hf.code ?_
  generalize (Tr.ofList (.e : Fr) 0 []) = fr0
  unfold Code.tithinglaw14_Awake
  refine W_seq (W_region (by simp only [simq, Int.reduceEq, Nat.reduceEqDiff]; rfl) ?_)
  refine W_seq (W_opsM (Wo_call hC.page_Count.prim (args := [strOf awakeText]) (by simp only [simq, Int.reduceEq, Nat.reduceEqDiff]; try rfl) ((PCount_run hC P hC.page_Count (G.skip 0) (by decide)).mono ?_)))
  rintro _ s2 ⟨rfl, l2⟩
  obtain ⟨z1, z2⟩ := doc_some awake_doc
  rw [z1, z2]
  refine Wo_all (by simp only [simq, Int.reduceEq, Nat.reduceEqDiff, nth0, nth1]; rfl) ?_
  show W E _ _ _ _
  have d1 : decide ((((1 : Nat) : Int)) = 1) = true := rfl
  have d2 : decide ((0 : Int) = 0) = true := rfl
  refine W_seq (W_region (by simp only [simq, Int.reduceEq, Nat.reduceEqDiff, d1, d2, List.length_cons, List.length_nil, Nat.zero_add]; rfl) (W_ret ⟨rfl, _, res_tmp res_nil, ?_, l2⟩))
  simp only [simq, Int.reduceEq, Nat.reduceEqDiff, tupled]; try rfl
set_option maxHeartbeats 8000000 in
theorem PageParses_run (hC : Codes E) (P : Prims E) (hf : Has E f Code.tithinglaw14_PageParses) (G : Gl s) (l : Ln) : Cv E f [strOf l] s fun r t => r = .bool true := by
  refine Cv_of hf.code ?_
  have h0 : (Tr.ofList (.e : Fr) 0 [strOf l]).get 0 = some (strOf l) := rfl
  generalize (Tr.ofList (.e : Fr) 0 [strOf l]) = fr0 at h0
  unfold Code.tithinglaw14_PageParses
  refine W_seq (W_region (by simp only [simq, Int.reduceEq, Nat.reduceEqDiff]; rfl) ?_)
  refine W_seq (W_seq (W_opsM (Wo_run (by simp only [simq, Int.reduceEq, Nat.reduceEqDiff, h0]; rfl) (Wo_call hC.tithinglaw14_long.prim (args := [strOf l]) (by simp only [simq, Int.reduceEq, Nat.reduceEqDiff]; try rfl) ((long_run hC.tithinglaw14_long l).mono ?_)))))
  rintro _ s1 ⟨rfl, l1⟩
  have l1 : Low s.next s s1 := l1
  refine Wo_all rfl ?_
  show W E _ _ _ _
  by_cases hl : 30000 < l.length
  · have d1 : decide (30000 < l.length) = true := decide_eq_true hl
    refine W_then (by simp only [simq, Int.reduceEq, Nat.reduceEqDiff, d1]) ?_
    refine W_seq (W_opsM (Wo_call hC.tithinglaw14_Awake.prim (args := []) (by simp only [simq, Int.reduceEq, Nat.reduceEqDiff]; try rfl) ((Awake_run hC P hC.tithinglaw14_Awake ((G.next l1).skip 0)).mono ?_)))
    rintro _ s2 ⟨rfl, l2⟩
    refine Wo_all (by simp only [simq, Int.reduceEq, Nat.reduceEqDiff]; rfl) ?_
    show W E _ _ _ _
    refine W_ret ⟨rfl, _, res_tmp res_nil, ?_⟩
    simp only [simq, Int.reduceEq, Nat.reduceEqDiff, tupled]
  have d1 : decide (30000 < l.length) = false := decide_eq_false hl
  refine W_else (by simp only [simq, Int.reduceEq, Nat.reduceEqDiff, d1]) (W_skip ?_)
  show W E _ _ _ _
  have hl' : l.length ≤ 100000 := by omega
  have G1 := G.next l1
  have m1 := next_skip s1 8
  refine W_seq (W_opsM (Wo_run (by simp only [simq, Int.reduceEq, Nat.reduceEqDiff, h0]; rfl) (Wo_call hC.page_Parse.prim (args := [strOf l]) (by simp only [simq, Int.reduceEq, Nat.reduceEqDiff, h0]; try rfl) ((Parse_run hC P hC.page_Parse (G1.skip 8) hl').mono ?_))))
  rintro _ s2 ⟨l2, cs, rfl, hM⟩
  have hl2 := l2.2.1
  have K2 : Low s1.next s1 s2 := ((Low.self s1).skip 8).trans (l2.weak (by omega))
  have hcs := hM.len
  refine Wo_run (l := [_, _, _]) (by simp only [simq, Int.reduceEq, Nat.reduceEqDiff, nth0, nth1]; rfl) ?_
  refine Wo_alloc (lo := s1.next) (s0 := s1) K2 (by omega) (by omega) fun s3 B3 n3 f3 => ?_
  obtain ⟨s4, p4, R4, n4, f4⟩ := B3.own.whole rfl hcs
  refine Wo_all (by simp only [simq, Int.reduceEq, Nat.reduceEqDiff, stor_agg, vcells_agg, five hcs, p4]; rfl) ?_
  show W E _ _ _ _
  have B4 : But (s1.next + 5) s2 s4 := ⟨by omega, fun b hb hne => (f4 b hne).trans (f3 b hne)⟩
  have L4 : Low s1.next s1 s4 := K2.trans (But.low B4 (by omega) (by omega))
  have G4 := G1.next L4
  have M4 : DocM s4 (s1.next + 8) s4.next cs (docOf l) := ((hM.to (by omega) (Nat.le_refl _)).but B4 (Nat.le_refl _) (.inl (by omega))).to (Nat.le_refl _) (by omega)
  refine W_gen (T := [(0, strOf l), (3, ptr (s1.next + 5) 0), (4, .int .i64 (errOf l))]) (all_cons (by simp only [simq, Int.reduceEq, Nat.reduceEqDiff, h0]) (all_cons (by simp only [simq, Int.reduceEq, Nat.reduceEqDiff]) (all_cons (by simp only [simq, Int.reduceEq, Nat.reduceEqDiff]) all_nil))) fun fr2 gf => ?_
  have k0 := gf _ (.head _)
  have k3 := gf _ (.tail _ (.head _))
  have k4 := gf _ (.tail _ (.tail _ (.head _)))
  simp only at k0 k3 k4
  clear gf h0
  have m4 := next_skip s4 8
  refine W_seq (W_opsM (Wo_run (by simp only [simq, Int.reduceEq, Nat.reduceEqDiff, k0]; rfl) (Wo_call hC.tithingref14_Parse.prim (args := [strOf l]) (by simp only [simq, Int.reduceEq, Nat.reduceEqDiff, k0]; try rfl) ((refParse_run hC hC.tithingref14_Parse hl').mono ?_))))
  rintro _ s5 ⟨l5, ds, rfl, hN⟩
  have hl5 := l5.2.1
  have K5 : Low s4.next s4 s5 := ((Low.self s4).skip 8).trans (l5.weak (by omega))
  have hds := hN.len
  refine Wo_run (l := [_, _, _]) (by simp only [simq, Int.reduceEq, Nat.reduceEqDiff, nth0, nth1]; rfl) ?_
  refine Wo_alloc (lo := s4.next) (s0 := s4) K5 (by omega) (by omega) fun s6 B6 n6 f6 => ?_
  obtain ⟨s7, p7, R7, n7, f7⟩ := B6.own.whole rfl hds
  refine Wo_all (by simp only [simq, Int.reduceEq, Nat.reduceEqDiff, stor_agg, vcells_agg, five hds, p7]; rfl) ?_
  show W E _ _ _ _
  have B7 : But (s4.next + 5) s5 s7 := ⟨by omega, fun b hb hne => (f7 b hne).trans (f6 b hne)⟩
  have L7 : Low s4.next s4 s7 := K5.trans (But.low B7 (by omega) (by omega))
  have G7 := G4.next L7
  have R47 := R4.low L7 (by omega)
  have M7 : DocV s7 s7.next cs (docOf l) := (M4.docV.low L7 (Nat.le_refl _)).wide L7.2.1
  have N7 : DocV s7 s7.next ds (docOf l) := (((hN.to (lo' := s4.next + 8) (by omega) (Nat.le_refl _)).but B7 (Nat.le_refl _) (.inl (by omega))).to (Nat.le_refl _) (by omega)).docV
  refine W_gen (T := [(0, strOf l), (3, ptr (s1.next + 5) 0), (4, .int .i64 (errOf l)), (5, ptr (s4.next + 5) 0), (6, .int .i64 (errOf l))]) (all_cons (by simp only [simq, Int.reduceEq, Nat.reduceEqDiff, k0]) (all_cons (by simp only [simq, Int.reduceEq, Nat.reduceEqDiff, k3]) (all_cons (by simp only [simq, Int.reduceEq, Nat.reduceEqDiff, k4]) (all_cons (by simp only [simq, Int.reduceEq, Nat.reduceEqDiff]) (all_cons (by simp only [simq, Int.reduceEq, Nat.reduceEqDiff]) all_nil))))) fun fr3 gf => ?_
  clear k0 k3 k4
  have k0 := gf _ (.head _)
  have k3 := gf _ (.tail _ (.head _))
  have k4 := gf _ (.tail _ (.tail _ (.head _)))
  have k5 := gf _ (.tail _ (.tail _ (.tail _ (.head _))))
  have k6 := gf _ (.tail _ (.tail _ (.tail _ (.tail _ (.head _)))))
  simp only at k0 k3 k4 k5 k6
  clear gf
  have r4 : s7.row ⟨s1.next + 5, 0, none⟩ 5 = some cs := R47.row hcs.symm
  have r7 : s7.row ⟨s4.next + 5, 0, none⟩ 5 = some ds := R7.row hds.symm
  have mild : Mild (docOf l) := by
    cases hd : docR l with
    | none => rw [(doc_none hd).2]; exact ⟨by decide, by decide, by decide, (by intro p hp; cases hp), by decide⟩
    | some d =>
      rw [(doc_some hd).2]
      have := doc_small hd hl'
      exact ⟨by have := this.h; omega, by have := this.p; omega, by have := this.g; omega, fun p hp => by have := this.gp p hp; omega, by have := this.t; omega⟩
  have hself : ∀ n : Int, decide (n = n) = true := fun n => decide_eq_true rfl
  refine W_seq (W_seq (W_opsM (Wo_run (by simp only [simq, Int.reduceEq, Nat.reduceEqDiff, k3, k5, r4, r7]; rfl) (Wo_call hC.tithingref14_Same.prim (args := [.agg ⟨cs⟩, .agg ⟨ds⟩]) (by simp only [simq, Int.reduceEq, Nat.reduceEqDiff]; try rfl) ((Same_run hC hC.tithingref14_Same M7 N7 (Nat.le_refl _) mild).mono ?_)))))
  rintro _ s8 ⟨rfl, l8⟩
  have l8 : Low s7.next s7 s8 := l8
  have G8 := G7.next l8
  rw [show decide (docOf l = docOf l) = true from decide_eq_true rfl]
  refine Wo_all (by simp only [simq, Int.reduceEq, Nat.reduceEqDiff, k4, k6, hself]; rfl) (W_else (by simp only [simq, Int.reduceEq, Nat.reduceEqDiff]) (W_skip ?_))
  show W E _ _ _ _
  refine W_seq (W_opsM (Wo_run (by simp only [simq, Int.reduceEq, Nat.reduceEqDiff, k0]; rfl) (Wo_call hC.page_Title.prim (args := [strOf l]) (by simp only [simq, Int.reduceEq, Nat.reduceEqDiff, k0]; try rfl) ((PTitle_run hC P hC.page_Title (G8.skip 0) hl').mono ?_))))
  rintro _ s9 ⟨rfl, l9⟩
  have G9 := (G8.skip 0).next l9
  refine Wo_all (by simp only [simq, Int.reduceEq, Nat.reduceEqDiff, nth0, nth1]; rfl) ?_
  show W E _ _ _ _
  refine W_seq (W_opsM (Wo_run (by simp only [simq, Int.reduceEq, Nat.reduceEqDiff, k0]; rfl) (Wo_call hC.tithingref14_Title.prim (args := [strOf l]) (by simp only [simq, Int.reduceEq, Nat.reduceEqDiff, k0]; try rfl) ((RTitle_run hC hC.tithingref14_Title hl').mono ?_))))
  rintro _ s10 ⟨rfl, l10⟩
  have G10 := (G9.skip 0).next l10
  refine Wo_all (by simp only [simq, Int.reduceEq, Nat.reduceEqDiff, nth0, nth1]; rfl) ?_
  show W E _ _ _ _
  refine W_seq (W_opsM (Wo_run (by simp only [simq, Int.reduceEq, Nat.reduceEqDiff, k0]; rfl) (Wo_call hC.page_Count.prim (args := [strOf l]) (by simp only [simq, Int.reduceEq, Nat.reduceEqDiff, k0]; try rfl) ((PCount_run hC P hC.page_Count (G10.skip 0) hl').mono ?_))))
  rintro _ s11 ⟨rfl, l11⟩
  have G11 := (G10.skip 0).next l11
  refine Wo_all (by simp only [simq, Int.reduceEq, Nat.reduceEqDiff, nth0, nth1]; rfl) ?_
  show W E _ _ _ _
  refine W_seq (W_opsM (Wo_run (by simp only [simq, Int.reduceEq, Nat.reduceEqDiff, k0]; rfl) (Wo_call hC.tithingref14_Count.prim (args := [strOf l]) (by simp only [simq, Int.reduceEq, Nat.reduceEqDiff, k0]; try rfl) ((RCount_run hC hC.tithingref14_Count hl').mono ?_))))
  rintro _ s12 ⟨rfl, l12⟩
  have G12 := (G11.skip 0).next l12
  refine Wo_all (by simp only [simq, Int.reduceEq, Nat.reduceEqDiff, nth0, nth1]; rfl) ?_
  show W E _ _ _ _
  have ht : decide ((docOf l).title = (docOf l).title) = true := decide_eq_true rfl
  refine W_seq (W_opsM (Wo_run (by simp only [simq, Int.reduceEq, Nat.reduceEqDiff, hself, ht]; rfl) (Wo_gt (by simp only [simq, Int.reduceEq, Nat.reduceEqDiff]) (Wo_call hC.tithinglaw14_Awake.prim (args := []) (by simp only [simq, Int.reduceEq, Nat.reduceEqDiff]; try rfl) ((Awake_run hC P hC.tithinglaw14_Awake (G12.skip 0)).mono ?_)))))
  rintro _ s13 ⟨rfl, l13⟩
  refine Wo_all (by simp only [simq, Int.reduceEq, Nat.reduceEqDiff]; rfl) ?_
  show W E _ _ _ _
  refine W_ret ⟨rfl, _, res_tmp res_nil, ?_⟩
  simp only [simq, Int.reduceEq, Nat.reduceEqDiff, tupled]
end
end
end Go.Ev
