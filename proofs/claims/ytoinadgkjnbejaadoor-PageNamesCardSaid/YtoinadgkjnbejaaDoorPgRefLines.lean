/-
  The document's lines of a text, and how its parser gives up.
-/
import Derived.Test.YtoinadgkjnbejaaDoorPgApp
set_option linter.unusedVariables false
set_option linter.unusedSimpArgs false
namespace Go.Ev
noncomputable section
open Go.Pg
theorem joinL_mem {x : Ln} : ∀ {l : List Ln}, x ∈ l → x.length ≤ (joinL l).length
  | [], h => by cases h
  | y :: r, h => by
    rw [joinL]
    rcases List.mem_cons.1 h with rfl | h
    · simp
    · have := joinL_mem h; simp; omega
theorem lns_sh (s : Ln) : ∀ x ∈ (lns s).1, x.length ≤ s.length := by
  intro x hx
  have h := congrArg List.length (join_lns s)
  rw [List.length_append] at h
  have := joinL_mem hx
  omega
section
variable {E : Env} {f : FuncId} {s t u : St}
set_option maxHeartbeats 2000000 in
theorem Lines_run (hf : Has E f Code.tithingref14_Lines) {l : Ln} (hl : l.length ≤ 100000) : Cv E f [strOf l] s fun r t => ∃ v, r = .tuple ⟨[v, .bool (decide ((lns l).2 = []))]⟩ ∧ Low s.next s t ∧ Gr t s.next 1 v ((lns l).1.map strOf) := by
  refine Cv_of hf.code ?_
  have h0 : (Tr.ofList (.e : Fr) 0 [strOf l]).get 0 = some (strOf l) := rfl
  generalize (Tr.ofList (.e : Fr) 0 [strOf l]) = fr0 at h0
  unfold Code.tithingref14_Lines
  refine W_seq (W_region (by simp only [simq, Int.reduceEq, Nat.reduceEqDiff]; rfl) ?_)
  refine W_seq (W_region (by simp only [simq, Int.reduceEq, Nat.reduceEqDiff]; rfl) ?_)
  refine W_seq (W_region (by simp only [simq, Int.reduceEq, Nat.reduceEqDiff]; rfl) ?_)
  refine W_seq (W_seq (W_region (by simp only [simq, Int.reduceEq, Nat.reduceEqDiff]; rfl) ?_))
  refine W_block ?_
  refine W_inv (fun m fr t => ∃ i fm v, m = l.length - i ∧ i ≤ l.length ∧ fm ≤ i ∧ fr.get 0 = some (strOf l) ∧ fr.get 4 = some v ∧ fr.get 5 = some (.int .i64 (fm : Nat)) ∧ fr.get 6 = some (.int .i64 (i : Nat)) ∧ (lns (l.take i)).2 = (l.take i).drop fm ∧ Gr t s.next 1 v ((lns (l.take i)).1.map strOf) ∧ Low s.next s t) ?_ l.length _ s ⟨0, 0, .slice none 0 0, rfl, Nat.zero_le _, Nat.zero_le _, by simp only [simq, Int.reduceEq, Nat.reduceEqDiff, h0], by simp only [simq, Int.reduceEq, Nat.reduceEqDiff], by simp only [simq, Int.reduceEq, Nat.reduceEqDiff]; rfl, by simp only [simq, Int.reduceEq, Nat.reduceEqDiff]; rfl, rfl, .nil, Low.self s⟩
  rintro m fr t ⟨i, fm, v, rfl, hi, hfm, k0, k4, k5, k6, hrest, gv, L⟩
  unfold Code.tithingref14_Lines_l0
  by_cases hlt : i < l.length
  · have d0 : decide (((i : Nat) : Int) < ((l.length : Nat) : Int)) = true := by simp; omega
    have e1 : wr .i64 ((i : Int) + 1) = ((i + 1 : Nat) : Int) := by rw [wr_i64 (by omega) (by omega)]; omega
    refine W_seq (W_seq (W_region (by simp only [simq, Int.reduceEq, Nat.reduceEqDiff, k0, k6, lenL_eq, Int.ofNat_eq_natCast, d0]; rfl) (W_then (by simp only [simq, Int.reduceEq, Nat.reduceEqDiff]) (W_skip ?_))))
    have hc := idx_str hlt
    have ht : l.take (i + 1) = l.take i ++ [l[i]] := List.take_succ_eq_append_getElem hlt
    have hs : lns (l.take (i + 1)) = lnsF (lns (l.take i)) l[i] := by rw [ht, lns_snoc]
    generalize l[i] = ch at hc hs ht
    cases dc : decide ((ch.toNat : Int) = 10) with
    | true =>
      have hch : ch = 10 := by
        rw [decide_eq_true_eq] at dc
        apply UInt8.toNat_inj.1
        have : (10 : UInt8).toNat = 10 := rfl
        omega
      have hs1 : lns (l.take (i + 1)) = ((lns (l.take i)).1 ++ [(l.drop fm).take (i - fm)], []) := by
        rw [hs, hch]
        unfold lnsF
        rw [if_pos rfl, hrest, List.drop_take]
      refine W_seq (W_block (W_seq (W_region (by simp only [simq, Int.reduceEq, Nat.reduceEqDiff, k0, k6, hc, ofByte_int, dc]; rfl) (W_then (by simp only [simq, Int.reduceEq, Nat.reduceEqDiff]) ?_))))
      have b1 : bound (some (.int .i64 ((i : Nat) : Int))) l.length l.length = some i := bound_num (by omega)
      have b2 : bound (some (.int .i64 ((fm : Nat) : Int))) 0 i = some fm := bound_num hfm
      refine W_seq (W_ops (Wo_run (l := [_, _, _, _, _]) (by simp only [simq, Int.reduceEq, Nat.reduceEqDiff, k0, k4, k5, k6, lenL_eq, b1, b2, takeL_eq, dropL_eq]; rfl) ?_))
      refine Wo_buildSlice (size := 1) (lo := t.next) (n := 1) (cs := [strOf ((l.drop fm).take (i - fm))]) (by simp only [simq, Int.reduceEq, Nat.reduceEqDiff]; rfl) rfl (Nat.le_add_right _ _) (by rw [next_skip]; omega) (by decide) ?_
      rintro s2 ⟨D2, -⟩ l2 hs2
      have L2 : Low t.next t s2 := ((Low.self t).skip 8).trans l2
      have hlen : (lns (l.take i)).1.length ≤ 100000 := by have := lns_len (l.take i); simp at this; omega
      refine Wo_append (lo := s.next) (by simp only [simq, Int.reduceEq, Nat.reduceEqDiff]) (by simp only [simq, Int.reduceEq, Nat.reduceEqDiff]) (gv.low L2 (Nat.le_refl _)) (Nat.le_trans L.2.1 L2.2.1) D2.feed (by decide) (by simp [room]; omega) ?_
      rintro w s3 g3 L3 -
      refine Wo_all (by simp only [simq, Int.reduceEq, Nat.reduceEqDiff]; rfl) ?_
      show W E _ _ _ _
      refine W_region (by simp only [simq, Int.reduceEq, Nat.reduceEqDiff, k6, e1]; rfl) ?_
      show W E _ _ _ _
      refine W_region (by simp only [simq, Int.reduceEq, Nat.reduceEqDiff, k6, e1]; rfl) ⟨l.length - (i + 1), by omega, i + 1, i + 1, w, rfl, by omega, Nat.le_refl _, by simp only [simq, Int.reduceEq, Nat.reduceEqDiff, k0], by simp only [simq, Int.reduceEq, Nat.reduceEqDiff], by simp only [simq, Int.reduceEq, Nat.reduceEqDiff], by simp only [simq, Int.reduceEq, Nat.reduceEqDiff], ?_, ?_, (L.trans (L2.weak L.2.1)).trans L3⟩
      · rw [hs1]
        have : (l.take (i + 1)).length ≤ i + 1 := by rw [List.length_take]; omega
        exact (List.drop_eq_nil_of_le this).symm
      · rw [hs1]
        simp only [List.map_append, List.map_cons, List.map_nil]
        exact g3
    | false =>
      have hch : ch ≠ 10 := fun e => by subst e; cases dc
      have hs1 : lns (l.take (i + 1)) = ((lns (l.take i)).1, (lns (l.take i)).2 ++ [ch]) := by
        rw [hs]
        unfold lnsF
        rw [if_neg hch]
      refine W_seq (W_block (W_seq (W_region (by simp only [simq, Int.reduceEq, Nat.reduceEqDiff, k0, k6, hc, ofByte_int, dc]; rfl) (W_else (by simp only [simq, Int.reduceEq, Nat.reduceEqDiff]) (W_skip ?_)))))
      show W E _ _ _ _
      refine W_region (by simp only [simq, Int.reduceEq, Nat.reduceEqDiff, k6, e1]; rfl) ⟨l.length - (i + 1), by omega, i + 1, fm, v, rfl, by omega, by omega, by simp only [simq, Int.reduceEq, Nat.reduceEqDiff, k0], by simp only [simq, Int.reduceEq, Nat.reduceEqDiff, k4], by simp only [simq, Int.reduceEq, Nat.reduceEqDiff, k5], by simp only [simq, Int.reduceEq, Nat.reduceEqDiff], ?_, ?_, L⟩
      · rw [hs1, hrest, ht, List.drop_append_of_le_length (by simp; omega)]
      · rw [hs1]; exact gv
  · have e : i = l.length := by omega
    subst e
    have d0 : decide (((l.length : Nat) : Int) < ((l.length : Nat) : Int)) = false := by simp
    refine W_seq (W_seq (W_region (by simp only [simq, Int.reduceEq, Nat.reduceEqDiff, k0, k6, lenL_eq, Int.ofNat_eq_natCast, d0]; rfl) (W_else (by simp only [simq, Int.reduceEq, Nat.reduceEqDiff]) (W_exit ?_))))
    rw [List.take_length] at hrest gv
    show W E _ _ _ _
    have dd : decide (((fm : Nat) : Int) = ((l.length : Nat) : Int)) = decide ((lns l).2 = []) := by
      rw [decide_eq_decide, hrest, List.drop_eq_nil_iff]
      omega
    refine W_seq (W_region (by simp only [simq, Int.reduceEq, Nat.reduceEqDiff, k0, k4, k5, lenL_eq, Int.ofNat_eq_natCast, dd]; rfl) (W_ret ⟨rfl, _, res_tmp (res_tmp res_nil), v, ?_, L, gv⟩))
    simp only [simq, Int.reduceEq, Nat.reduceEqDiff, tupled]
theorem doc_none {l : Ln} (h : docR l = none) : errOf l = 3 ∧ docOf l = noDoc := by unfold errOf docOf; rw [h]; exact ⟨rfl, rfl⟩
theorem doc_some {l : Ln} {d : Doc} (h : docR l = some d) : errOf l = 0 ∧ docOf l = d := by unfold errOf docOf; rw [h]; exact ⟨rfl, rfl⟩
def ParsePost (s : St) (l : Ln) (r : Value) (t : St) : Prop := Low s.next s t ∧ ∃ cs, r = .tuple ⟨[.agg ⟨cs⟩, .int .i64 (errOf l)]⟩ ∧ DocM t s.next t.next cs (docOf l)
theorem noCells_len : Nat.beq (lenL noCells) 5 = true := rfl
theorem refFail {fr : Fr} {r : Nat} {l : Ln} {cs0 : List Value} (x : Nat) (hx2 : x ≠ 2) (hx3 : x ≠ 3) (L : Low s.next s t) (hr : s.next ≤ r) (R : Row t r cs0) (hc : cs0.length = 5) (h2 : fr.get 2 = some (ptr r 0)) (hn : docR l = none) {Q : Ex → Fr → St → Prop}
    (hQ : ∀ fr' t', (isExit .ret = false ∧ ∃ m, optL (oneRes fr' t') [.cell 2 true 5, .tmp 3] = some m ∧ ParsePost s l (tupled m) t') → Q .ret fr' t') :
    W E (.seq (.region 0 [⟨some x, .build [.string ⟨⟨[]⟩⟩, .slice none 0 0, .slice none 0 0, .slice none 0 0, .slice none 0 0] [], none, 0, []⟩, ⟨none, .store 5 (.t 2) (.t x), none, 1, []⟩, ⟨some 3, .mov (.c (.int .i64 3)), none, 2, []⟩]) .ret) fr t Q := by
  obtain ⟨t2, p2, R2, n2, f2⟩ := R.put (o := 0) (vs := noCells) (by rw [hc]; decide)
  have hsp : splice cs0 0 noCells = noCells := by
    rw [splice_eq, List.take_zero, List.nil_append, List.drop_eq_nil_of_le (by rw [hc]; decide), List.append_nil]
  rw [hsp] at R2
  have hx2' : ¬ 2 = x := fun e => hx2 e.symm
  have hx3' : ¬ 3 = x := fun e => hx3 e.symm
  have hb : fillL (evP fr []) noCells = some noCells := rfl
  have hst : storable (.agg ⟨noCells⟩) = true := rfl
  have hvc : vcells (.agg ⟨noCells⟩) = noCells := rfl
  have hcells : ([strOf [], .slice none 0 0, .slice none 0 0, .slice none 0 0, .slice none 0 0] : List Value) = noCells := rfl
  refine W_seq (W_ops ?_)
  refine Wo_build (l := noCells) rfl ?_
  refine Wo_all (by simp only [simq, Int.reduceEq, Nat.reduceEqDiff, h2, hx2, hx2', hx3, hx3', p2, hst, hvc, noCells_len]; rfl) ?_
  obtain ⟨z1, z2⟩ := doc_none hn
  refine W_ret (hQ _ _ ⟨rfl, _, res_cell (by simp only [simq, Int.reduceEq, Nat.reduceEqDiff, h2, hx2, hx2']) (R2.row rfl) (res_tmp res_nil), ?_, noCells, ?_, ?_⟩)
  · exact L.trans (Low.weak (But.low (a := r) (lo := s.next) (but_put n2 f2) hr L.2.1) (Nat.le_refl _))
  · rw [z1]; simp only [simq, Int.reduceEq, Nat.reduceEqDiff, tupled]
  · rw [z2]; exact noDocM _ _ _
end
end
end Go.Ev
