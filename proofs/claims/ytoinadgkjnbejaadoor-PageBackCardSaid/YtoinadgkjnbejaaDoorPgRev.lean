/-
  Reverse: of the program.
-/
import Derived.Test.YtoinadgkjnbejaaDoorPgPicks
set_option linter.unusedVariables false
set_option linter.unusedSimpArgs false
namespace Go.Ev
noncomputable section
open Go.Pg
section
variable {E : Env} {f : FuncId} {s t u : St}
def downN (n i : Nat) : List Nat := (List.range i).map (n - ·)
theorem downN_snoc (n i : Nat) : downN n (i + 1) = downN n i ++ [n - i] := by
  unfold downN
  rw [List.range_succ, List.map_append]; rfl
theorem backOf_eq (l : Ln) : backOf l = match docR l with
  | none => [strOf [], .int .i64 3]
  | some d => toldOf (pickD d (downN d.pages.length d.pages.length)) := rfl
set_option maxHeartbeats 8000000 in
theorem Reverse_run (hC : Codes E) (P : Prims E) (hf : Has E f Code.page_Reverse) (G : Gl s) {l : Ln} (hl : l.length ≤ 100000) (hpg : ∀ d, docR l = some d → d.pages.length ≤ 999) : Cv E f [strOf l] s fun r t => r = .tuple ⟨backOf l⟩ ∧ Low s.next s t := by
  refine Cv_of hf.code ?_
  have h0 : (Tr.ofList (.e : Fr) 0 [strOf l]).get 0 = some (strOf l) := rfl
  generalize (Tr.ofList (.e : Fr) 0 [strOf l]) = fr0 at h0
  unfold Code.page_Reverse
  refine W_seq (W_region (by simp only [simq, Int.reduceEq, Nat.reduceEqDiff]; rfl) ?_)
  have K1 : Low s.next s (s.skip 8) := (Low.self s).skip 8
  have m1 := next_skip s 8
  have hG := G.le
  refine W_seq (W_opsM (Wo_run (by simp only [simq, Int.reduceEq, Nat.reduceEqDiff, h0]; rfl) (Wo_call hC.page_Parse.prim (args := [strOf l]) (by simp only [simq, Int.reduceEq, Nat.reduceEqDiff, h0]; try rfl) ((Parse_own hC P hC.page_Parse (G.skip 8) hl).mono ?_))))
  rintro r s2 ⟨⟨l2, cs, rfl, hM⟩, hown⟩
  have hl2 := l2.2.1
  have K2 : Low s.next s s2 := K1.trans (l2.weak (by omega))
  have hcs := hM.len
  refine Wo_run (l := [_, _, _]) (by simp only [simq, Int.reduceEq, Nat.reduceEqDiff, nth0, nth1]; rfl) ?_
  refine Wo_alloc (lo := s.next) (s0 := s) K2 (by omega) (by omega) fun s3 B3 n3 f3 => ?_
  obtain ⟨s4, p4, R4, n4, f4⟩ := B3.own.whole rfl hcs
  refine Wo_all (by simp only [simq, Int.reduceEq, Nat.reduceEqDiff, stor_agg, vcells_agg, five hcs, p4]; rfl) ?_
  show W E _ _ _ _
  have B4 : But (s.next + 5) s2 s4 := ⟨by omega, fun b hb hne => (f4 b hne).trans (f3 b hne)⟩
  have L4 : Low s.next s s4 := K2.trans (But.low B4 (by omega) (by omega))
  have hL4 := L4.2.1
  refine W_gen (T := [(4, ptr (s.next + 5) 0), (5, .int .i64 (errOf l))]) (all_cons (by simp only [simq, Int.reduceEq, Nat.reduceEqDiff]) (all_cons (by simp only [simq, Int.reduceEq, Nat.reduceEqDiff]) all_nil)) fun fr2 gf => ?_
  have k4 := gf _ (.head _)
  have k5 := gf _ (.tail _ (.head _))
  simp only at k4 k5
  clear gf h0
  cases hd : docR l with
  | none =>
    have he := (doc_none hd).1
    rw [he] at k5
    have d1 : decide ((3 : Int) = 0) = false := by decide
    refine W_seq (W_seq (W_region (by simp only [simq, Int.reduceEq, Nat.reduceEqDiff, k5, d1]; rfl) (W_then (by simp only [simq, Int.reduceEq, Nat.reduceEqDiff]; try rfl) ?_)))
    refine W_seq (W_region (by simp only [simq, Int.reduceEq, Nat.reduceEqDiff, k5]; rfl) (W_ret ⟨rfl, _, res_tmp (res_tmp res_nil), ?_, L4⟩))
    rw [backOf_eq, hd]
    simp only [simq, Int.reduceEq, Nat.reduceEqDiff, tupled]
  | some d =>
    have he := (doc_some hd).1
    rw [he] at k5
    have d1 : decide ((0 : Int) = 0) = true := by decide
    refine W_seq (W_seq (W_region (by simp only [simq, Int.reduceEq, Nat.reduceEqDiff, k5, d1]; rfl) (W_else (by simp only [simq, Int.reduceEq, Nat.reduceEqDiff]; try rfl) (W_skip ?_))))
    show W E _ _ _ _
    obtain ⟨cs', ecs, hO⟩ := hown d hd
    have ecs' : cs' = cs := by injection ecs with e; injection e with e; injection e with e1 e2; injection e1 with e1; injection e1 with e1; exact e1.symm
    subst ecs'
    have hO4 : DocO s4 (s.next + 8) s4.next cs' d := ((hO.to (lo' := s.next + 8) (by omega) (Nat.le_refl _)).but B4 (Nat.le_refl _) (.inl (by omega))).to (Nat.le_refl _) (by omega)
    obtain ⟨h, p, g, tr, ecs3, -, -, hg, -⟩ := hO4.docM.docV
    obtain ⟨gp, gc, rfl⟩ := hg.parts
    have c3 : s4.cell ⟨s.next + 5, 3, none⟩ = some (.slice gp d.pages.length gc) := by rw [R4.cell 3, ecs3]; rfl
    have hN := hpg d hd
    refine W_seq (W_region (by simp only [simq, Int.reduceEq, Nat.reduceEqDiff]; rfl) ?_)
    refine W_seq (W_seq (W_region (by simp only [simq, Int.reduceEq, Nat.reduceEqDiff, k4, c3]; rfl) (W_block ?_)))
    generalize hnn : d.pages.length = N at *
    refine W_inv (fun m fr t => ∃ i v, m = N - i ∧ i ≤ N ∧ Low s4.next s4 t ∧ fr.get 4 = some (ptr (s.next + 5) 0) ∧ fr.get 7 = some (.int .i64 ((N - i : Nat) : Int)) ∧ fr.get 6 = some v ∧ Gr t s4.next 1 v ((downN N i).map fun (n : Nat) => Value.int .i64 (n : Int))) ?_ N _ s4 ⟨0, .slice none 0 0, rfl, Nat.zero_le _, Low.self s4, by simp only [simq, Int.reduceEq, Nat.reduceEqDiff, k4], by simp only [simq, Int.reduceEq, Nat.reduceEqDiff]; rfl, by simp only [simq, Int.reduceEq, Nat.reduceEqDiff], .nil⟩
    rintro m fr t ⟨i, v, rfl, hi, L, k4, k7, k6, hv⟩
    unfold Code.page_Reverse_l0
    have hL := L.2.1
    by_cases hlt : i < N
    · have d0 : decide ((0 : Int) < ((N - i : Nat) : Int)) = true := by simp; omega
      have e1 : wr .i64 (((N - i : Nat) : Int) - 1) = ((N - (i + 1) : Nat) : Int) := by rw [wr_i64 (by omega) (by omega)]; omega
      refine W_seq (W_seq (W_region (by simp only [simq, Int.reduceEq, Nat.reduceEqDiff, k7, d0]; rfl) (W_then (by simp only [simq, Int.reduceEq, Nat.reduceEqDiff]) (W_skip ?_))))
      have m2 := next_skip t 5
      refine W_seq (W_block (W_ops (Wo_run (l := [_, _]) (by simp only [simq, Int.reduceEq, Nat.reduceEqDiff, k6, k7]; rfl) ?_)))
      refine Wo_buildSlice (size := 1) (lo := t.next) (n := 1) (cs := [.int .i64 ((N - i : Nat) : Int)]) (by simp only [simq, Int.reduceEq, Nat.reduceEqDiff]; rfl) rfl (Nat.le_add_right _ _) (by omega) (by decide) ?_
      rintro t2 ⟨D2, -⟩ l2 hs2
      have L2 : Low t.next t t2 := ((Low.self t).skip 5).trans l2
      have hdl : (downN N i).length = i := by simp [downN]
      refine Wo_append (lo := s4.next) (by simp only [simq, Int.reduceEq, Nat.reduceEqDiff]) (by simp only [simq, Int.reduceEq, Nat.reduceEqDiff]) (hv.low L2 (Nat.le_refl _)) (Nat.le_trans hL L2.2.1) D2.feed (by decide) (by simp only [List.length_map, List.length_cons, List.length_nil, hdl]; unfold room; omega) ?_
      rintro v3 t3 g3 L3 -
      refine Wo_all (by simp only [simq, Int.reduceEq, Nat.reduceEqDiff]; rfl) ?_
      show W E _ _ _ _
      refine W_region (by simp only [simq, Int.reduceEq, Nat.reduceEqDiff, k7, e1]; rfl) ⟨N - (i + 1), by omega, i + 1, v3, rfl, by omega, (L.trans (L2.weak hL)).trans L3, by simp only [simq, Int.reduceEq, Nat.reduceEqDiff, k4], by simp only [simq, Int.reduceEq, Nat.reduceEqDiff], by simp only [simq, Int.reduceEq, Nat.reduceEqDiff], ?_⟩
      rw [downN_snoc, List.map_append]
      exact g3
    · have e : i = N := by omega
      subst e
      have d0 : decide ((0 : Int) < ((i - i : Nat) : Int)) = false := by simp
      refine W_seq (W_seq (W_region (by simp only [simq, Int.reduceEq, Nat.reduceEqDiff, k7, d0]; rfl) (W_else (by simp only [simq, Int.reduceEq, Nat.reduceEqDiff]) (W_exit ?_))))
      show W E _ _ _ _
      have L5 : Low s.next s t := L4.trans (L.weak (by omega))
      have r5 : t.row ⟨s.next + 5, 0, none⟩ 5 = some cs' := (R4.low L (by omega)).row hcs.symm
      have sm := doc_small hd hl
      have hxh : ∀ x ∈ d.header, x.length ≤ 100000 := fun x hx => by
        have := (doc_short hd).2.2 x (by unfold docLines; simp [hx])
        omega
      obtain ⟨vp, vn, vc, rfl, hvn⟩ := hv.sl.parts
      have hdl : (downN i i).length = i := by simp [downN]
      have hkl := pick_run hC P hC.page_pick (s := t) (G.next L5) (lo := s.next + 8) (hO4.low L (Nat.le_refl _)) (by omega) hL (v := .slice vp vn vc) (ns := downN i i) hv.sl (fun n hn => by
        unfold downN at hn
        obtain ⟨z, hz, rfl⟩ := List.mem_map.1 hn
        rw [List.mem_range] at hz
        omega) (by omega) sm hxh (pick_fits hd (by omega))
      refine W_seq (W_opsM (Wo_run (by simp only [simq, Int.reduceEq, Nat.reduceEqDiff, k4, k6, r5]; rfl) (Wo_call hC.page_pick.prim (args := [.agg ⟨cs'⟩, .slice vp vn vc]) (by simp only [simq, Int.reduceEq, Nat.reduceEqDiff, k6]; try rfl) (hkl.mono ?_))))
      rintro _ s6 ⟨rfl, l6⟩
      obtain ⟨x, y, hxy⟩ : ∃ x y, toldOf (pickD d (downN i i)) = [x, y] := by
        unfold toldOf
        split <;> exact ⟨_, _, rfl⟩
      have hpk : backOf l = [x, y] := by rw [backOf_eq, hd]; simp only; rw [hnn]; exact hxy
      rw [hpk, hxy]
      refine Wo_all (by simp only [simq, Int.reduceEq, Nat.reduceEqDiff, nth0, nth1]; rfl) ?_
      show W E _ _ _ _
      refine W_ret ⟨rfl, _, res_tmp (res_tmp res_nil), by simp only [simq, Int.reduceEq, Nat.reduceEqDiff, tupled], L5.trans (l6.weak (by omega))⟩
end
end
end Go.Ev
