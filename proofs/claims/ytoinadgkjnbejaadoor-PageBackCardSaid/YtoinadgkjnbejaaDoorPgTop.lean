/-
  Parse, Title, Count: of the program and of the document.
-/
import Derived.Test.YtoinadgkjnbejaaDoorPgClone
import Derived.Test.YtoinadgkjnbejaaDoorPgSame
set_option linter.unusedVariables false
set_option linter.unusedSimpArgs false
namespace Go.Ev
noncomputable section
open Go.Pg
section
variable {E : Env} {f : FuncId} {s t u : St}
theorem splice_all {z cs : List Value} (h : z.length = cs.length) : splice z 0 cs = cs := by
  rw [splice_eq, List.take_zero, List.nil_append, List.drop_eq_nil_of_le (by omega), List.append_nil]
theorem five {cs : List Value} (h : cs.length = 5) : Nat.beq (lenL cs) 5 = true := by rw [lenL_eq, h]; rfl
theorem Row.whole {r : Nat} {z cs : List Value} (h : Row s r z) (hz : z.length = 5) (hc : cs.length = 5) : ∃ t, s.put ⟨r, 0, none⟩ cs = some t ∧ Row t r cs ∧ t.next = s.next ∧ ∀ b, b ≠ r → t.get b = s.get b := by
  obtain ⟨t, p, R, n, f⟩ := h.put (o := 0) (vs := cs) (by omega)
  rw [splice_all (by omega)] at R
  exact ⟨t, p, R, n, f⟩
def ParseOwn (s : St) (l : Ln) (r : Value) (t : St) : Prop := ParsePost s l r t ∧ ∀ d, docR l = some d → ∃ cs, r = .tuple ⟨[.agg ⟨cs⟩, .int .i64 0]⟩ ∧ DocO t s.next t.next cs d
set_option maxHeartbeats 8000000 in
theorem Parse_own (hC : Codes E) (P : Prims E) (hf : Has E f Code.page_Parse) (G : Gl s) {l : Ln} (hl : l.length ≤ 100000) : Cv E f [strOf l] s (ParseOwn s l) := by
  refine Cv_of hf.code ?_
  have h0 : (Tr.ofList (.e : Fr) 0 [strOf l]).get 0 = some (strOf l) := rfl
  generalize (Tr.ofList (.e : Fr) 0 [strOf l]) = fr0 at h0
  unfold Code.page_Parse
  refine W_seq (W_ops ?_)
  refine Wo_alloc (lo := s.next) (s0 := s) ((Low.self s).skip 2) (Nat.le_add_right _ _) (by rw [next_skip]; omega) fun s1 B1 n1 f1 => Wo_all (by simp only [simq, Int.reduceEq, Nat.reduceEqDiff]; rfl) ?_
  show W E _ _ _ _
  rw [Nat.add_zero] at B1
  rw [next_skip] at n1
  have RR1 := B1.own
  have L1 := B1.low
  have K1 : Low s1.next s1 (s1.skip 8) := (Low.self s1).skip 8
  have m1 := next_skip s1 8
  refine W_seq (W_opsM (Wo_run (by simp only [simq, Int.reduceEq, Nat.reduceEqDiff, h0]; rfl) (Wo_call hC.page_parse.prim (args := [strOf l]) (by simp only [simq, Int.reduceEq, Nat.reduceEqDiff]; try rfl) ((parse_run hC P hC.page_parse ((G.next L1).skip 8) hl).mono ?_))))
  rintro _ s2 ⟨l2, cs, hcs, rfl, hdd⟩
  have K2 : Low s1.next s1 s2 := K1.trans (l2.weak (by omega))
  have hl2 := l2.2.1
  refine Wo_run (l := [_, _, _]) (by simp only [simq, Int.reduceEq, Nat.reduceEqDiff, nth0, nth1]; rfl) ?_
  refine Wo_alloc (lo := s1.next) (s0 := s1) K2 (by omega) (by omega) fun s3 B3 n3 f3 => ?_
  obtain ⟨s4, p4, R4, n4, f4⟩ := B3.own.whole rfl hcs
  refine Wo_all (by simp only [simq, Int.reduceEq, Nat.reduceEqDiff, stor_agg, vcells_agg, five hcs, p4]; rfl) ?_
  show W E _ _ _ _
  have B4 : But (s1.next + 5) s2 s4 := ⟨by omega, fun b hb hne => (f4 b hne).trans (f3 b hne)⟩
  have RR4 := (RR1.low K2 (by omega)).but B4 (by omega) (by omega)
  have L4 : Low s.next s s4 := L1.trans ((K2.weak (by omega)).trans (But.low B4 (by omega) (by omega)))
  refine W_gen (T := [(2, ptr s.next 0), (4, ptr (s1.next + 5) 0), (5, .bool (docR l).isSome)]) (all_cons (by simp only [simq, Int.reduceEq, Nat.reduceEqDiff]) (all_cons (by simp only [simq, Int.reduceEq, Nat.reduceEqDiff]) (all_cons (by simp only [simq, Int.reduceEq, Nat.reduceEqDiff]) all_nil))) fun fr2 gf => ?_
  have k2 := gf _ (.head _)
  have k4 := gf _ (.tail _ (.head _))
  have k5 := gf _ (.tail _ (.tail _ (.head _)))
  simp only at k2 k4 k5
  clear gf h0
  cases hd : docR l with
  | none =>
    rw [hd] at k5
    have k5 : fr2.get 5 = some (.bool false) := k5
    refine W_seq (W_seq (W_region (by simp only [simq, Int.reduceEq, Nat.reduceEqDiff, k5]; rfl) (W_then (by simp only [simq, Int.reduceEq, Nat.reduceEqDiff]) ?_)))
    exact refFail 13 (by decide) (by decide) L4 (Nat.le_refl _) RR4 rfl (by simp only [simq, Int.reduceEq, Nat.reduceEqDiff, k2]) hd (fun _ _ ⟨h1, m, h2, h3⟩ => ⟨h1, m, h2, h3, fun d hd' => by rw [hd] at hd'; cases hd'⟩)
  | some d =>
    rw [hd] at k5
    have k5 : fr2.get 5 = some (.bool true) := k5
    refine W_seq (W_seq (W_region (by simp only [simq, Int.reduceEq, Nat.reduceEqDiff, k5]; rfl) (W_else (by simp only [simq, Int.reduceEq, Nat.reduceEqDiff]) (W_skip ?_))))
    show W E _ _ _ _
    have DM : DocM s4 (s1.next + 8) s2.next cs d := (DocM.but ((hdd d hd).to (by omega) (Nat.le_refl _)) B4 (Nat.le_refl _) (.inl (by omega)))
    have r4 : s4.row ⟨s1.next + 5, 0, none⟩ 5 = some cs := R4.row hcs.symm
    refine W_seq (W_opsM (Wo_run (by simp only [simq, Int.reduceEq, Nat.reduceEqDiff, k4, r4]; rfl) (Wo_call hC.page_clone.prim (args := [.agg ⟨cs⟩]) (by simp only [simq, Int.reduceEq, Nat.reduceEqDiff]; try rfl) ((clone_own hC hC.page_clone (hi := s2.next) DM.docV (by show _ ≤ s4.next; omega) (doc_small hd hl)).mono ?_))))
    rintro _ s5 ⟨l5, cs', hcs', rfl, hM⟩
    have l5 : Low s4.next s4 s5 := l5
    have hl5 := l5.2.1
    obtain ⟨s6, p6, R6, n6, f6⟩ := (RR4.low l5 (by omega)).whole rfl hcs'
    refine Wo_all (by simp only [simq, Int.reduceEq, Nat.reduceEqDiff, k2, stor_agg, vcells_agg, five hcs', p6]; rfl) ?_
    show W E _ _ _ _
    have B6 : But s.next s5 s6 := but_put n6 f6
    obtain ⟨z1, z2⟩ := doc_some hd
    have hM : DocO s5 s4.next s5.next cs' d := hM
    have hO : DocO s6 s.next s6.next cs' d := (hM.but B6 (Nat.le_refl _) (.inl (by omega))).to (by omega) (by rw [n6]; exact Nat.le_refl _)
    refine W_ret ⟨rfl, _, res_cell (cs := cs') (by simp only [simq, Int.reduceEq, Nat.reduceEqDiff, k2]) (R6.row hcs'.symm) (res_tmp res_nil), ⟨(L4.trans (l5.weak (by omega))).trans (But.low B6 (Nat.le_refl _) (by omega)), cs', ?_, ?_⟩, fun d' hd' => ⟨cs', ?_, ?_⟩⟩
    · rw [z1]; simp only [simq, Int.reduceEq, Nat.reduceEqDiff, tupled]
    · rw [z2]; exact hO.docM
    · simp only [simq, Int.reduceEq, Nat.reduceEqDiff, tupled]
    · rw [hd] at hd'
      cases hd'
      exact hO
theorem Parse_run (hC : Codes E) (P : Prims E) (hf : Has E f Code.page_Parse) (G : Gl s) {l : Ln} (hl : l.length ≤ 100000) : Cv E f [strOf l] s (ParsePost s l) := (Parse_own hC P hf G hl).mono fun _ _ h => h.1
def AskPost (s : St) (v : Value) (l : Ln) (r : Value) (t : St) : Prop := r = .tuple ⟨[v, .int .i64 (errOf l)]⟩ ∧ Low s.next s t
set_option maxHeartbeats 4000000 in
theorem PCount_run (hC : Codes E) (P : Prims E) (hf : Has E f Code.page_Count) (G : Gl s) {l : Ln} (hl : l.length ≤ 100000) : Cv E f [strOf l] s (AskPost s (.int .i64 (((docOf l).pages.length : Nat) : Int)) l) := by
  refine Cv_of hf.code ?_
  have h0 : (Tr.ofList (.e : Fr) 0 [strOf l]).get 0 = some (strOf l) := rfl
  generalize (Tr.ofList (.e : Fr) 0 [strOf l]) = fr0 at h0
  unfold Code.page_Count
  refine W_seq (W_region (by simp only [simq, Int.reduceEq, Nat.reduceEqDiff]; rfl) ?_)
  have K1 : Low s.next s (s.skip 8) := (Low.self s).skip 8
  have m1 := next_skip s 8
  refine W_seq (W_opsM (Wo_run (by simp only [simq, Int.reduceEq, Nat.reduceEqDiff, h0]; rfl) (Wo_call hC.page_Parse.prim (args := [strOf l]) (by simp only [simq, Int.reduceEq, Nat.reduceEqDiff, h0]; try rfl) ((Parse_run hC P hC.page_Parse ((G.skip 8)) hl).mono ?_))))
  rintro _ s2 ⟨l2, cs, rfl, hM⟩
  have l2 : Low (s.skip 8).next (s.skip 8) s2 := l2
  have hl2 := l2.2.1
  have K2 : Low s.next s s2 := K1.trans (l2.weak (by omega))
  have hcs := hM.len
  refine Wo_run (l := [_, _, _]) (by simp only [simq, Int.reduceEq, Nat.reduceEqDiff, nth0, nth1]; rfl) ?_
  refine Wo_alloc (lo := s.next) (s0 := s) K2 (by omega) (by omega) fun s3 B3 n3 f3 => ?_
  obtain ⟨s4, p4, R4, n4, f4⟩ := B3.own.whole rfl hcs
  refine Wo_all (by simp only [simq, Int.reduceEq, Nat.reduceEqDiff, stor_agg, vcells_agg, five hcs, p4]; rfl) ?_
  show W E _ _ _ _
  have B4 : But (s.next + 5) s2 s4 := ⟨by omega, fun b hb hne => (f4 b hne).trans (f3 b hne)⟩
  have L4 : Low s.next s s4 := K2.trans (But.low B4 (by omega) (by omega))
  obtain ⟨h, p, g, tr, rfl, -, -, hg, -⟩ := hM
  obtain ⟨q, c, rfl⟩ := hg.lists.parts
  have c3 : s4.cell ⟨s.next + 5, 3, none⟩ = some (.slice q (docOf l).pages.length c) := R4.cell 3
  refine W_seq (W_region (by simp only [simq, Int.reduceEq, Nat.reduceEqDiff, c3]; rfl) (W_ret ⟨rfl, _, res_tmp (res_tmp res_nil), ?_, L4⟩))
  simp only [simq, Int.reduceEq, Nat.reduceEqDiff, tupled]
  try rfl
end
end
end Go.Ev
