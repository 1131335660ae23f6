/-
  The program's parser, whole.
-/
import Derived.Test.YtoinadgkjnbejaaDoorPgParse
import Derived.Test.YtoinadgkjnbejaaDoorPgRefLines
set_option linter.unusedVariables false
set_option linter.unusedSimpArgs false
namespace Go.Ev
noncomputable section
open Go.Pg
section
variable {E : Env} {f : FuncId} {s t u : St}
theorem storable_sl (p : Option Addr) (n c : Nat) : storable (.slice p n c) = true ∧ vcells (.slice p n c) = [.slice p n c] ∧ Nat.beq (lenL [Value.slice p n c]) 1 = true := ⟨rfl, rfl, rfl⟩
set_option maxHeartbeats 8000000 in
theorem parse_run (hC : Codes E) (P : Prims E) (hf : Has E f Code.page_parse) (G : Gl s) {l : Ln} (hl : l.length ≤ 100000) : Cv E f [strOf l] s (ProgPost s l) := by
  refine Cv_of hf.code ?_
  have h0 : (Tr.ofList (.e : Fr) 0 [strOf l]).get 0 = some (strOf l) := rfl
  generalize (Tr.ofList (.e : Fr) 0 [strOf l]) = fr0 at h0
  unfold Code.page_parse
  refine W_seq (W_ops ?_)
  refine Wo_alloc (lo := s.next) (s0 := s) ((Low.self s).skip 2) (Nat.le_add_right _ _) (by rw [next_skip]; omega) fun s1 B1 n1 f1 => Wo_all (by simp only [simq, Int.reduceEq, Nat.reduceEqDiff]; rfl) ?_
  show W E _ _ _ _
  rw [Nat.add_zero] at B1
  rw [next_skip] at n1
  have R1 : Row s1 s.next [strOf [], .slice none 0 0, .slice none 0 0, .slice none 0 0, .slice none 0 0] := B1.own
  have L1 := B1.low
  refine W_seq (W_opsM (Wo_run (by simp only [simq, Int.reduceEq, Nat.reduceEqDiff, h0]; rfl) (Wo_call hC.page_lines.prim (args := [strOf l]) (by simp only [simq, Int.reduceEq, Nat.reduceEqDiff]; try rfl) ((lines_run P hC.page_lines (G.next L1) (by omega)).mono ?_))))
  rintro _ s2 ⟨v, rfl, l2, ⟨p, n, c, rfl, hnc, hcap⟩, hm⟩
  refine Wo_all (by simp only [simq, Int.reduceEq, Nat.reduceEqDiff, nth0, nth1]; rfl) ?_
  show W E _ _ _ _
  have hl2 := l2.2.1
  have L2 : Low s.next s s2 := L1.trans (l2.weak L1.2.1)
  have R2 := R1.low l2 (by omega)
  have hls := lns_len l
  have hshl := lns_sh l
  have hdoc : docR l = if 20000 < l.length ∨ (lns l).2 ≠ [] then none else parseR (lns l).1 := rfl
  rw [parse_eq] at hdoc
  generalize (lns l).1 = LS at *
  generalize (lns l).2 = tail at *
  refine W_gen (T := [(0, strOf l), (2, ptr s.next 0), (4, .slice p n c), (5, .bool (decide (tail = [])))]) (all_cons (by simp only [simq, Int.reduceEq, Nat.reduceEqDiff, h0]) (all_cons (by simp only [simq, Int.reduceEq, Nat.reduceEqDiff]) (all_cons (by simp only [simq, Int.reduceEq, Nat.reduceEqDiff]) (all_cons (by simp only [simq, Int.reduceEq, Nat.reduceEqDiff]) all_nil)))) fun fr2 g => ?_
  have k0 := g _ (.head _)
  have k2 := g _ (.tail _ (.head _))
  have k4 := g _ (.tail _ (.tail _ (.head _)))
  have k5 := g _ (.tail _ (.tail _ (.tail _ (.head _))))
  simp only at k0 k2 k4 k5
  clear g h0 fr0
  have hL2 := L2.2.1
  by_cases a1 : 20000 < l.length
  · have hno : docR l = none := by rw [hdoc, if_pos (.inl a1)]
    have d1 : decide ((20000 : Int) < ((l.length : Nat) : Int)) = true := by simp; omega
    exact W_seq (W_seq (W_region (by simp only [simq, Int.reduceEq, Nat.reduceEqDiff, k0, lenL_eq, Int.ofNat_eq_natCast, d1]; rfl) (W_then (by simp only [simq, Int.reduceEq, Nat.reduceEqDiff]) (progFail 47 (by decide) (by decide) L2 (Nat.le_refl _) R2 rfl (by simp only [simq, Int.reduceEq, Nat.reduceEqDiff, k2]) hno (fun _ _ h => h)))))
  have d1 : decide ((20000 : Int) < ((l.length : Nat) : Int)) = false := by simp; omega
  by_cases a2 : tail = []
  case neg =>
    have hno : docR l = none := by rw [hdoc, if_pos (.inr a2)]
    have d2 : decide (tail = []) = false := decide_eq_false a2
    exact W_seq (W_seq (W_region (by simp only [simq, Int.reduceEq, Nat.reduceEqDiff, k0, k5, lenL_eq, Int.ofNat_eq_natCast, d1, d2]; rfl) (W_then (by simp only [simq, Int.reduceEq, Nat.reduceEqDiff]) (progFail 47 (by decide) (by decide) L2 (Nat.le_refl _) R2 rfl (by simp only [simq, Int.reduceEq, Nat.reduceEqDiff, k2]) hno (fun _ _ h => h)))))
  have d2 : decide (tail = []) = true := decide_eq_true a2
  rw [if_neg (by rw [not_or]; exact ⟨a1, fun h => h a2⟩), parseP] at hdoc
  have W2 : Win s2 (s.next + 1) s2.next p n c LS := ⟨(hm a2).weak (by omega), hcap, hnc⟩
  have hlen := W2.len
  subst hlen
  by_cases a3 : LS.length < 4
  · have hno : docR l = none := by rw [hdoc, if_neg fun h => by omega]
    have d3 : decide (((LS.length : Nat) : Int) < 4) = true := by simp; omega
    exact W_seq (W_seq (W_region (by simp only [simq, Int.reduceEq, Nat.reduceEqDiff, k0, k4, k5, lenL_eq, Int.ofNat_eq_natCast, d1, d2, d3]; rfl) (W_then (by simp only [simq, Int.reduceEq, Nat.reduceEqDiff]) (progFail 47 (by decide) (by decide) L2 (Nat.le_refl _) R2 rfl (by simp only [simq, Int.reduceEq, Nat.reduceEqDiff, k2]) hno (fun _ _ h => h)))))
  have d3 : decide (((LS.length : Nat) : Int) < 4) = false := by simp; omega
  obtain ⟨q, rfl, hc0⟩ := W2.m.1.cell (i := 0) (by rw [List.length_map]; omega)
  obtain ⟨q', hq', hc1⟩ := W2.m.1.cell (i := LS.length - 1) (by rw [List.length_map]; omega)
  cases hq'
  rw [List.getElem?_map, List.getElem?_eq_getElem (show 0 < LS.length by omega), Option.map_some] at hc0
  rw [List.getElem?_map, List.getElem?_eq_getElem (show LS.length - 1 < LS.length by omega), Option.map_some] at hc1
  have hz : asNat (.int .i64 0) = some 0 := rfl
  have hb0 : Nat.blt 0 LS.length = true := by rw [Nat.blt_eq]; omega
  have hb1 : Nat.blt (LS.length - 1) LS.length = true := by rw [Nat.blt_eq]; omega
  have w1 : wr .i64 (((LS.length : Nat) : Int) - 1) = ((LS.length - 1 : Nat) : Int) := by rw [wr_i64 (by omega) (by omega)]; omega
  rw [List.getElem?_eq_getElem (show 0 < LS.length by omega), List.getElem?_eq_getElem (show LS.length - 1 < LS.length by omega)] at hdoc
  by_cases a4 : LS[0] = wFirst
  case neg =>
    have hno : docR l = none := by rw [hdoc, if_neg fun h => a4 (Option.some.inj h.2.1)]
    have d4 : decide (LS[0] = wFirst) = false := decide_eq_false a4
    unfold wFirst at d4
    exact W_seq (W_seq (W_region (by simp only [simq, Int.reduceEq, Nat.reduceEqDiff, k0, k4, k5, lenL_eq, Int.ofNat_eq_natCast, d1, d2, d3, hz, hb0, hc0, d4]; rfl) (W_then (by simp only [simq, Int.reduceEq, Nat.reduceEqDiff]) (progFail 47 (by decide) (by decide) L2 (Nat.le_refl _) R2 rfl (by simp only [simq, Int.reduceEq, Nat.reduceEqDiff, k2]) hno (fun _ _ h => h)))))
  have d4 : decide (LS[0] = wFirst) = true := decide_eq_true a4
  unfold wFirst at d4
  by_cases a5 : LS[LS.length - 1] = wEof
  case neg =>
    have hno : docR l = none := by rw [hdoc, if_neg fun h => a5 (Option.some.inj h.2.2)]
    have d5 : decide (LS[LS.length - 1] = wEof) = false := decide_eq_false a5
    unfold wEof at d5
    exact W_seq (W_seq (W_region (by simp only [simq, Int.reduceEq, Nat.reduceEqDiff, k0, k4, k5, lenL_eq, Int.ofNat_eq_natCast, d1, d2, d3, hz, hb0, hc0, d4, w1, hb1, hc1, d5]; rfl) (W_then (by simp only [simq, Int.reduceEq, Nat.reduceEqDiff]) (progFail 47 (by decide) (by decide) L2 (Nat.le_refl _) R2 rfl (by simp only [simq, Int.reduceEq, Nat.reduceEqDiff, k2]) hno (fun _ _ h => h)))))
  have d5 : decide (LS[LS.length - 1] = wEof) = true := decide_eq_true a5
  unfold wEof at d5
  rw [if_pos ⟨by omega, by rw [a4], by rw [a5]⟩] at hdoc
  refine W_seq (W_seq (W_region (by simp only [simq, Int.reduceEq, Nat.reduceEqDiff, k0, k4, k5, lenL_eq, Int.ofNat_eq_natCast, d1, d2, d3, hz, hb0, hc0, d4, w1, hb1, hc1, d5]; rfl) (W_else (by simp only [simq, Int.reduceEq, Nat.reduceEqDiff]) (W_skip ?_))))
  have hs1 : ∀ t : St, sliceOp t 1 (.slice (some q) LS.length c) (some (.int .i64 1)) (some (.int .i64 ((LS.length - 1 : Nat) : Int))) none = some (.slice (subP (some q) c 1) (LS.length - 1 - 1) (c - 1)) := fun t => slice_ex (l := 1) hcap (by omega) (by omega)
  have W3 := W2.cut (l := 1) (k := LS.length - 1) (by omega) (by omega)
  refine W_seq (W_region (by simp only [simq, Int.reduceEq, Nat.reduceEqDiff, k4, w1, Int.ofNat_eq_natCast, hs1]; rfl) ?_)
  rw [show LS.length - 2 = LS.length - 1 - 1 by omega] at hdoc
  have hshm : ∀ x ∈ (LS.drop 1).take (LS.length - 1 - 1), x.length ≤ 100000 := fun x hx => by
    have := hshl x (List.mem_of_mem_drop (List.mem_of_mem_take hx))
    omega
  have hml : ((LS.drop 1).take (LS.length - 1 - 1)).length ≤ 100000 := by simp; omega
  generalize (LS.drop 1).take (LS.length - 1 - 1) = M at *
  generalize subP (some q) c 1 = p3 at *
  generalize hn3 : LS.length - 1 - 1 = n3 at *
  generalize c - 1 = c3 at *
  clear hc0 hc1 hz hb0 hb1 w1 d1 d2 d3 d4 d5 hs1
  refine W_gen (T := [(2, ptr s.next 0), (4, .slice p3 n3 c3)]) (all_cons (by simp only [simq, Int.reduceEq, Nat.reduceEqDiff, k2]) (all_cons (by simp only [simq, Int.reduceEq, Nat.reduceEqDiff]) all_nil)) fun fr3 g => ?_
  clear k0 k2 k4 k5
  have k2 := g _ (.head _)
  have k4 := g _ (.tail _ (.head _))
  simp only at k2 k4
  clear g
  have hM := W3.len
  subst hM
  have hcap3 := W3.cap
  have hnc3 := W3.nc
  have hcut := cutH_ix M
  refine W_seq (W_opsM (Wo_run (by simp only [simq, Int.reduceEq, Nat.reduceEqDiff, k4]; rfl) (Wo_call hC.slices_Index_string_string.prim (args := [.slice p3 M.length c3, strOf wEndHeader]) (by simp only [simq, Int.reduceEq, Nat.reduceEqDiff]; try rfl) ((Index_run hC.slices_Index_string_string W3.texts (by omega) wEndHeader).mono ?_))))
  rintro _ _ ⟨hs, rfl⟩
  rw [hs]; clear hs
  cases hix : ixOf wEndHeader M with
  | none =>
    rw [hix] at hcut
    have hno : docR l = none := by rw [hdoc, midP, hcut]; rfl
    refine Wo_all (by simp only [simq, Int.reduceEq, Nat.reduceEqDiff]; rfl) ?_
    show W E _ _ _ _
    exact W_seq (W_seq (W_region (by simp only [simq, Int.reduceEq, Nat.reduceEqDiff]; rfl) (W_then (by simp only [simq, Int.reduceEq, Nat.reduceEqDiff]; rfl) (progFail 57 (by decide) (by decide) L2 (Nat.le_refl _) R2 rfl (by simp only [simq, Int.reduceEq, Nat.reduceEqDiff, k2]) hno (fun _ _ h => h)))))
  | some at_ =>
  rw [hix] at hcut
  have hat := ixOf_lt hix
  have hcut : cutH M = some (M.take at_, M.drop (at_ + 1)) := hcut
  rw [midP, hcut, Option.bind_some] at hdoc
  simp only at hdoc
  refine Wo_all (by simp only [simq, Int.reduceEq, Nat.reduceEqDiff]; rfl) ?_
  show W E _ _ _ _
  have d6 : decide (((at_ : Nat) : Int) < 0) = false := by simp
  refine W_seq (W_seq (W_region (by simp only [simq, Int.reduceEq, Nat.reduceEqDiff, d6]; rfl) (W_else (by simp only [simq, Int.reduceEq, Nat.reduceEqDiff]) (W_skip ?_))))
  have w2 : wr .i64 (((at_ : Nat) : Int) + 1) = ((at_ + 1 : Nat) : Int) := by rw [wr_i64 (by omega) (by omega)]; omega
  have hs2 : ∀ t : St, sliceOp t 1 (.slice p3 M.length c3) none (some (.int .i64 ((at_ : Nat) : Int))) none = some (.slice (subP p3 c3 0) at_ c3) := fun t => slice_to hcap3 (by omega)
  have hs3 : ∀ t : St, sliceOp t 1 (.slice p3 M.length c3) (some (.int .i64 ((at_ + 1 : Nat) : Int))) none none = some (.slice (subP p3 c3 (at_ + 1)) (M.length - (at_ + 1)) (c3 - (at_ + 1))) := fun t => slice_from hcap3 (by omega) hnc3
  have WH : Win s2 (s.next + 1) s2.next (subP p3 c3 0) at_ c3 (M.take at_) := W3.cut (l := 0) (k := at_) (Nat.zero_le _) (by omega)
  have WR := W3.cut (l := at_ + 1) (k := M.length) (by omega) (Nat.le_refl _)
  have er : (M.drop (at_ + 1)).take (M.length - (at_ + 1)) = M.drop (at_ + 1) := List.take_of_length_le (by simp)
  rw [er] at WR
  have hss := W3.sub_same (at_ + 1) (M.length - (at_ + 1)) (c3 - (at_ + 1))
  have hshh : ∀ x ∈ M.take at_, x.length ≤ 100000 := fun x hx => hshm x (List.mem_of_mem_take hx)
  have hshr : ∀ x ∈ M.drop (at_ + 1), x.length ≤ 100000 := fun x hx => hshm x (List.mem_of_mem_drop hx)
  have hhl : (M.take at_).length ≤ 100000 := by simp; omega
  have hrl : (M.drop (at_ + 1)).length ≤ 100000 := by simp; omega
  generalize hHD : M.take at_ = HD at *
  generalize hRS : M.drop (at_ + 1) = RS at *
  have hsH := storable_sl (subP p3 c3 0) at_ c3
  obtain ⟨s3, p3', R3, n3', f3'⟩ := R2.put (o := 1) (vs := [.slice (subP p3 c3 0) at_ c3]) (by simp)
  have B3 : But s.next s2 s3 := but_put n3' f3'
  have R3 : Row s3 s.next [strOf [], .slice (subP p3 c3 0) at_ c3, .slice none 0 0, .slice none 0 0, .slice none 0 0] := R3
  refine W_seq (W_ops (Wo_run (l := [_, _, _, _, _, _, _, _]) (by simp only [simq, Int.reduceEq, Nat.reduceEqDiff, k2, k4, w2, hs2, hs3]; rfl) ?_))
  refine Wo_opA (s' := s3) (by simp only [simq, Int.reduceEq, Nat.reduceEqDiff, k2, hsH.1, hsH.2.1, hsH.2.2, p3']; rfl) (again_slice (v := .slice (subP p3 c3 (at_ + 1)) (M.length - (at_ + 1)) (c3 - (at_ + 1))) (by simp only [simq, Int.reduceEq, Nat.reduceEqDiff, hs3]) (by simp only [simq, Int.reduceEq, Nat.reduceEqDiff]) hss again_nil) ?_
  refine Wo_all (by simp only [simq, Int.reduceEq, Nat.reduceEqDiff]; rfl) ?_
  show W E _ _ _ _
  generalize subP p3 c3 (at_ + 1) = p4 at *
  generalize M.length - (at_ + 1) = n4 at *
  generalize c3 - (at_ + 1) = c4 at *
  generalize subP p3 c3 0 = ph at *
  have L3 : Low s.next s s3 := L2.trans (But.low B3 (Nat.le_refl _) hL2)
  have hB3 := B3.1
  have WH3 := WH.but B3 (Nat.le_refl _) (.inl (by omega))
  have WR3 := WR.but B3 (Nat.le_refl _) (.inl (by omega))
  refine W_gen (T := [(2, ptr s.next 0), (4, .slice p4 n4 c4)]) (all_cons (by simp only [simq, Int.reduceEq, Nat.reduceEqDiff, k2]) (all_cons (by simp only [simq, Int.reduceEq, Nat.reduceEqDiff]) all_nil)) fun fr4 g => ?_
  clear k2 k4
  have k2 := g _ (.head _)
  have k4 := g _ (.tail _ (.head _))
  simp only at k2 k4
  clear g
  refine W_seq (W_region (by simp only [simq, Int.reduceEq, Nat.reduceEqDiff]; rfl) ?_)
  refine W_seq (W_region (by simp only [simq, Int.reduceEq, Nat.reduceEqDiff]; rfl) ?_)
  have cell1 : s3.cell ⟨s.next, 1, none⟩ = some (.slice ph at_ c3) := R3.cell 1
  refine W_seq (W_seq (W_region (by simp only [simq, Int.reduceEq, Nat.reduceEqDiff, k2, cell1]; rfl) (W_block ?_)))
  refine head_loop hC P G (d := s.next) (H := s2.next) (hp := ph) (hn := at_) (hc := c3) (hdr := HD) (p := p4) (n := n4) (c := c4) (rest := RS) (l := l) (Nat.le_refl _) (by omega) hshh hhl (fun _ _ h => h) (fun hb => ?_) ?_ (t := s3) ⟨L3, R3, WH3, WR3, hB3⟩ (by simp only [simq, Int.reduceEq, Nat.reduceEqDiff, k2]) (by simp only [simq, Int.reduceEq, Nat.reduceEqDiff, k4]) (by simp only [simq, Int.reduceEq, Nat.reduceEqDiff]) (by simp only [simq, Int.reduceEq, Nat.reduceEqDiff]; rfl) (by simp only [simq, Int.reduceEq, Nat.reduceEqDiff]; rfl) (by simp only [simq, Int.reduceEq, Nat.reduceEqDiff]) (by simp only [simq, Int.reduceEq, Nat.reduceEqDiff]; rfl) (by simp only [simq, Int.reduceEq, Nat.reduceEqDiff]; rfl)
  · rw [hdoc, hb]; rfl
  intro fr t y hy A k2 k4 k7 k8 k9
  show W E _ fr t _
  rw [hy, Option.bind_some] at hdoc
  have hAL := A.L.2.1
  have hAle := A.le
  have hcap4 := A.wr.cap
  have hnc4 := A.wr.nc
  have hlen4 := A.wr.len
  subst hlen4
  refine W_seq (W_opsM (Wo_run (by simp only [simq, Int.reduceEq, Nat.reduceEqDiff, k4]; rfl) (Wo_call hC.page_body.prim (args := [.slice p4 RS.length c4]) (by simp only [simq, Int.reduceEq, Nat.reduceEqDiff]; try rfl) ((body_run hC P hC.page_body (G.next A.L) A.wr.texts hAle hrl hshr).mono ?_))))
  rintro _ t2 ⟨l2', rfl⟩
  refine Wo_all (by simp only [simq, Int.reduceEq, Nat.reduceEqDiff, nth0, nth1]; rfl) ?_
  show W E _ _ _ _
  have hl2' := l2'.2.1
  have L4 : Low s.next s t2 := A.L.trans (l2'.weak hAL)
  have R4 := A.row.low l2' (by omega)
  have WH4 := A.wh.low l2' hAle
  have WR4 := A.wr.low l2' hAle
  have hnb : bodyN (bodyP false RS) ≤ RS.length := by
    cases hbp : bodyP false RS with
    | none => exact Nat.zero_le _
    | some z => obtain ⟨q, w⟩ := z; exact bodyP_le RS false q w hbp
  generalize hnbv : bodyN (bodyP false RS) = nb at *
  have hs5 : ∀ t : St, sliceOp t 1 (.slice p4 RS.length c4) none (some (.int .i64 ((nb : Nat) : Int))) none = some (.slice (subP p4 c4 0) nb c4) := fun t => slice_to hcap4 (by omega)
  have hs6 : ∀ t : St, sliceOp t 1 (.slice p4 RS.length c4) (some (.int .i64 ((nb : Nat) : Int))) none none = some (.slice (subP p4 c4 nb) (RS.length - nb) (c4 - nb)) := fun t => slice_from hcap4 hnb hnc4
  have WP4 : Win t2 (s.next + 1) s2.next (subP p4 c4 0) nb c4 (RS.take nb) := WR4.cut (l := 0) (k := nb) (Nat.zero_le _) hnb
  have WC4 := WR4.cut (l := nb) (k := RS.length) hnb (Nat.le_refl _)
  have ec : (RS.drop nb).take (RS.length - nb) = RS.drop nb := List.take_of_length_le (by simp)
  rw [ec] at WC4
  have hss6 := WR4.sub_same nb (RS.length - nb) (c4 - nb)
  have hsP := storable_sl (subP p4 c4 0) nb c4
  obtain ⟨t3, p5, R5, n5, f5⟩ := R4.put (o := 2) (vs := [.slice (subP p4 c4 0) nb c4]) (by simp)
  have B5 : But s.next t2 t3 := but_put n5 f5
  have R5 : Row t3 s.next [strOf y.title, .slice ph at_ c3, .slice (subP p4 c4 0) nb c4, .slice none 0 0, .slice none 0 0] := R5
  refine W_seq (W_ops (Wo_run (l := [_, _, _, _, _, _, _]) (by simp only [simq, Int.reduceEq, Nat.reduceEqDiff, k2, k4, hs5, hs6]; rfl) ?_))
  refine Wo_opA (s' := t3) (by simp only [simq, Int.reduceEq, Nat.reduceEqDiff, k2, hsP.1, hsP.2.1, hsP.2.2, p5]; rfl) (again_slice (v := .slice (subP p4 c4 nb) (RS.length - nb) (c4 - nb)) (by simp only [simq, Int.reduceEq, Nat.reduceEqDiff, hs6]) (by simp only [simq, Int.reduceEq, Nat.reduceEqDiff]) hss6 again_nil) ?_
  refine Wo_all (by simp only [simq, Int.reduceEq, Nat.reduceEqDiff]; rfl) ?_
  show W E _ _ _ _
  have hB5 := B5.1
  have L5 : Low s.next s t3 := L4.trans (But.low B5 (Nat.le_refl _) (by omega))
  cases hok : bodyO (bodyP false RS) with
  | false =>
    have hno : docR l = none := by
      rw [hdoc]
      cases hbp : bodyP false RS with
      | none => rfl
      | some z =>
        obtain ⟨q, ok⟩ := z
        rw [hbp] at hok
        have hok : ok = false := hok
        subst hok
        rfl
    refine W_seq (W_block (W_loop ?_))
    unfold Code.page_parse_l1
    refine W_seq (W_seq (W_ops (Wo_run (by simp only [simq, Int.reduceEq, Nat.reduceEqDiff]; rfl) (Wo_gfA (by simp only [simq, Int.reduceEq, Nat.reduceEqDiff]) (Wo_all (by simp only [simq, Int.reduceEq, Nat.reduceEqDiff]; rfl) (W_else (by simp only [simq, Int.reduceEq, Nat.reduceEqDiff]) (W_exit ?_)))))))
    show W E _ _ t3 _
    exact W_seq (W_seq (W_opsM (Wo_all (by simp only [simq, Int.reduceEq, Nat.reduceEqDiff]; rfl) (W_then (by simp only [simq, Int.reduceEq, Nat.reduceEqDiff]) (progFail 176 (by decide) (by decide) L5 (Nat.le_refl _) R5 rfl (by simp only [simq, Int.reduceEq, Nat.reduceEqDiff, k2]) hno (fun _ _ h => h))))))
  | true =>
  have hbp : bodyP false RS = some (nb, true) := by
    cases hbp : bodyP false RS with
    | none => rw [hbp] at hok; cases hok
    | some z =>
      obtain ⟨q, ok⟩ := z
      rw [hbp] at hok hnbv
      have hok : ok = true := hok
      have hnbv : q = nb := hnbv
      rw [hok, hnbv]
  rw [hbp] at hdoc
  have hdoc : docR l = endP y HD (RS.take nb) (pagesP 0 (RS.drop nb)) := hdoc
  refine W_seq (W_block (prog_pages hC P G (d := s.next) (H := s2.next) (lo := t3.next) (hn := at_) (hc := c3) (wn := nb) (wc := c4) (hp := ph) (wp := subP p4 c4 0) (hdr := HD) (pro := RS.take nb) (tit := y.title) (told := y.told) (ti := y.titles) (co := y.counts) (l := l) (Nat.le_refl _) (by omega) (by omega) (R0 := RS.drop nb) (fun hb => by rw [hdoc, hb]; rfl) ?_ ?_ ((RS.drop nb).length + 1) _ _ (.inl ⟨subP p4 c4 nb, RS.length - nb, c4 - nb, RS.drop nb, [], .slice none 0 0, rfl, ⟨L5, R5, WH4.but B5 (by omega) (.inl (by omega)), WP4.but B5 (by omega) (.inl (by omega)), WC4.but B5 (by omega) (.inl (by omega)), ⟨[], .nil, rfl, by intro i x q h; simp at h⟩, Nat.le_refl _⟩, by simp, by simp; omega, fun x hx => hshr x (List.mem_of_mem_drop hx), by simp only [simq, Int.reduceEq, Nat.reduceEqDiff, k2], by simp only [simq, Int.reduceEq, Nat.reduceEqDiff], by simp only [simq, Int.reduceEq, Nat.reduceEqDiff], by simp only [simq, Int.reduceEq, Nat.reduceEqDiff, k7], by simp only [simq, Int.reduceEq, Nat.reduceEqDiff, k8], by simp only [simq, Int.reduceEq, Nat.reduceEqDiff, k9]⟩)))
  · intro hno fr t cs L row hcs k2 k3
    show W E _ fr t _
    exact W_seq (W_seq (W_opsM (Wo_all (by simp only [simq, Int.reduceEq, Nat.reduceEqDiff, k3]; rfl) (W_then (by simp only [simq, Int.reduceEq, Nat.reduceEqDiff]) (progFail 176 (by decide) (by decide) L (Nat.le_refl _) row hcs (by simp only [simq, Int.reduceEq, Nat.reduceEqDiff, k2]) hno (fun _ _ h => h))))))
  · intro fr t p n c cur ps g A hpg hcnt hsh k2 k3 k4 k7 k8 k9
    show W E _ fr t _
    exact parse_end hC P G rfl (by omega) (by omega) A (by rw [hdoc, hpg]) hcnt hsh k2 k3 k4 k7 k8 k9 (fun _ _ h => h)
end
end
end Go.Ev
