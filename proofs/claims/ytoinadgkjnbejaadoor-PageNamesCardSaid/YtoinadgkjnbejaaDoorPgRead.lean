/-
  The document's reader: the next line, the lines of a part, the trailer.
-/
import Derived.Test.YtoinadgkjnbejaaDoorPgLines
import Derived.Test.YtoinadgkjnbejaaDoorPgPure5
set_option linter.unusedVariables false
set_option linter.unusedSimpArgs false
namespace Go.Ev
noncomputable section
open Go.Pg
def Two (a d : Nat) (s t : St) : Prop := s.next ≤ t.next ∧ ∀ c, c < s.next → c ≠ a → c ≠ d → t.get c = s.get c
structure Rdr (s : St) (hi a : Nat) (v : Value) (ls : List Ln) (k : Nat) : Prop where
  row : Row s a [v, .int .i64 (k : Nat)]
  sl : Texts s hi v ls
  few : ls.length ≤ 100000
  sh : ∀ x ∈ ls, x.length ≤ 100000
  ge : hi ≤ a
  lt : a < s.next
  kle : k ≤ ls.length
def nx (ls : List Ln) (k : Nat) : Ln × Nat × Ln := match ls[k]? with | some x => (x, (kd x).1, (kd x).2) | none => ([], 9, [])
section
variable {E : Env} {f : FuncId} {s t u : St} {hi a d c : Nat} {v : Value} {ls : List Ln} {k : Nat}
theorem Two.refl (a d : Nat) (s : St) : Two a d s s := ⟨Nat.le_refl _, fun _ _ _ _ => rfl⟩
theorem Two.trans (h : Two a d s t) (k : Two a d t u) : Two a d s u := ⟨Nat.le_trans h.1 k.1, fun c hc ha hd => (k.2 c (Nat.lt_of_lt_of_le hc h.1) ha hd).trans (h.2 c hc ha hd)⟩
theorem Low.two (h : Low s.next s t) : Two a d s t := ⟨h.2.1, fun c hc _ _ => h.2.2 c hc⟩
theorem But.two (h : But a s t) : Two a d s t := ⟨h.1, fun c hc ha _ => h.2 c hc ha⟩
theorem But.two' (h : But d s t) : Two a d s t := ⟨h.1, fun c hc _ hd => h.2 c hc hd⟩
theorem Texts.two {l : List Ln} (h : Texts s hi v l) (k : Two a d s t) (h1 : hi ≤ s.next) (ha : hi ≤ a) (hd : hi ≤ d) : Texts t hi v l := by
  unfold Texts at h ⊢
  generalize l.map strOf = cs at h
  cases h with
  | nil => exact .nil
  | mk hb hg hl hc => exact .mk hb (by rw [k.2 _ (by omega) (by omega) (by omega)]; exact hg) hl hc
theorem Texts.sub {l : List Ln} (h : Texts s hi v l) (k : ∀ c, c < hi → t.get c = s.get c) : Texts t hi v l := by
  unfold Texts at h ⊢
  generalize l.map strOf = cs at h
  cases h with
  | nil => exact .nil
  | mk hb hg hl hc => exact .mk hb (by rw [k _ hb]; exact hg) hl hc
theorem Row.two {cs : List Value} {b : Nat} (h : Row s b cs) (k : Two a d s t) (hb : b < s.next) (ha : b ≠ a) (hd : b ≠ d) : Row t b cs := by
  obtain ⟨es, h⟩ := h
  exact ⟨es, by rw [k.2 b hb ha hd]; exact h⟩
theorem Rdr.slice (h : Rdr s hi a v ls k) : ∃ p c, v = .slice p ls.length c := by
  obtain ⟨p, n, c, rfl, hn⟩ := h.sl.parts
  rw [List.length_map, Nat.mul_one] at hn
  subst hn
  exact ⟨p, c, rfl⟩
theorem Rdr.low {lo : Nat} (h : Rdr s hi a v ls k) (l : Low lo s t) (hl : a < lo) : Rdr t hi a v ls k :=
  ⟨h.row.low l hl, h.sl.low l (by have := h.ge; omega), h.few, h.sh, h.ge, Nat.lt_of_lt_of_le h.lt l.2.1, h.kle⟩
theorem Rdr.but {b : Nat} (h : Rdr s hi a v ls k) (l : But b s t) (hb : a ≠ b) (hh : hi ≤ b) : Rdr t hi a v ls k :=
  ⟨h.row.but l h.lt hb, Sl.but h.sl l (by have := h.ge; have := h.lt; omega) hh, h.few, h.sh, h.ge, Nat.lt_of_lt_of_le h.lt l.1, h.kle⟩
theorem Rdr.put {j : Nat} (h : Rdr s hi a v ls k) (hr : Row t a [v, .int .i64 (j : Nat)]) (l : But a s t) (hj : j ≤ ls.length) : Rdr t hi a v ls j :=
  ⟨hr, Sl.but h.sl l (by have := h.ge; have := h.lt; omega) h.ge, h.few, h.sh, h.ge, Nat.lt_of_lt_of_le h.lt l.1, hj⟩
theorem Rdr.step (h : Rdr s hi a v ls k) (hk : k < ls.length) : ∃ t, s.put ⟨a, 1, none⟩ [.int .i64 ((k + 1 : Nat) : Int)] = some t ∧ Rdr t hi a v ls (k + 1) ∧ But a s t ∧ t.next = s.next ∧ wr .i64 ((k : Int) + 1) = ((k + 1 : Nat) : Int) := by
  have hf := h.few
  obtain ⟨t, p1, R1, n1, f1⟩ := h.row.put (o := 1) (vs := [.int .i64 ((k + 1 : Nat) : Int)]) (by simp)
  have B1 := but_put n1 f1
  exact ⟨t, p1, h.put R1 B1 hk, B1, n1, by rw [wr_i64 (by omega) (by omega)]; omega⟩
theorem nx_some (h : k < ls.length) : nx ls k = (ls[k], (kd ls[k]).1, (kd ls[k]).2) := by unfold nx; rw [List.getElem?_eq_getElem h]
theorem nx_none (h : ¬ k < ls.length) : nx ls k = ([], 9, []) := by unfold nx; rw [List.getElem?_eq_none (by omega)]
theorem next_run (hC : Codes E) (hf : Has E f Code._tithing_tithingref14_reader_next) (R : Rdr s hi a v ls k) : Cv E f [ptr a 0] s fun r t => t = s ∧ r = .tuple ⟨[strOf (nx ls k).1, .int .i64 ((nx ls k).2.1 : Nat), strOf (nx ls k).2.2]⟩ := by
  obtain ⟨p, c, rfl⟩ := R.slice
  refine Cv_of hf.code ?_
  have h0 : (Tr.ofList (.e : Fr) 0 [ptr a 0]).get 0 = some (ptr a 0) := rfl
  generalize (Tr.ofList (.e : Fr) 0 [ptr a 0]) = fr0 at h0
  unfold Code._tithing_tithingref14_reader_next
  have c0 : s.cell ⟨a, 0, none⟩ = some (.slice p ls.length c) := R.row.cell 0
  have c1 : s.cell ⟨a, 1, none⟩ = some (.int .i64 (k : Nat)) := R.row.cell 1
  refine W_seq (W_region (by simp only [simq, Int.reduceEq, Nat.reduceEqDiff]; rfl) ?_)
  by_cases h : k < ls.length
  · have d1 : decide (((ls.length : Nat) : Int) ≤ ((k : Nat) : Int)) = false := by simp; omega
    refine W_seq (W_seq (W_region (by simp only [simq, Int.reduceEq, Nat.reduceEqDiff, h0, c0, c1, nilOk_ptr, Int.ofNat_eq_natCast, d1]; rfl) ?_))
    refine W_else (by simp only [simq, Int.reduceEq, Nat.reduceEqDiff]) (W_skip ?_)
    obtain ⟨q, rfl, hcell⟩ := R.sl.cell (i := k) (by rw [List.length_map]; exact h)
    rw [List.getElem?_map, List.getElem?_eq_getElem h, Option.map_some] at hcell
    have hb : Nat.blt k ls.length = true := by rw [Nat.blt_eq]; exact h
    refine W_seq (W_region (by simp only [simq, Int.reduceEq, Nat.reduceEqDiff, h0, c0, c1, nilOk_ptr, hb, hcell]; rfl) ?_)
    refine W_seq (W_opsM (Wo_run (by simp only [simq, Int.reduceEq, Nat.reduceEqDiff]; rfl) (Wo_call hC.tithingref14_kind.prim (args := [strOf ls[k]]) (by simp only [simq, Int.reduceEq, Nat.reduceEqDiff]; try rfl) ((kind_run hC hC.tithingref14_kind ls[k] (R.sh _ (List.getElem_mem h))).mono ?_))))
    rintro _ _ ⟨hs, rfl⟩
    rw [hs]; clear hs
    refine Wo_all (by simp only [simq, Int.reduceEq, Nat.reduceEqDiff, nth0, nth1]; rfl) ?_
    show W E _ _ _ _
    refine W_seq (W_region (by simp only [simq, Int.reduceEq, Nat.reduceEqDiff]; rfl) ?_)
    refine W_ret ⟨rfl, _, res_tmp (res_tmp (res_tmp res_nil)), rfl, ?_⟩
    simp only [simq, Int.reduceEq, Nat.reduceEqDiff, tupled, nx_some h]
  · have d1 : decide (((ls.length : Nat) : Int) ≤ ((k : Nat) : Int)) = true := by simp; omega
    refine W_seq (W_seq (W_region (by simp only [simq, Int.reduceEq, Nat.reduceEqDiff, h0, c0, c1, nilOk_ptr, Int.ofNat_eq_natCast, d1]; rfl) ?_))
    refine W_then (by simp only [simq, Int.reduceEq, Nat.reduceEqDiff]) (W_seq (W_region (by simp only [simq, Int.reduceEq, Nat.reduceEqDiff]; rfl) (W_ret ⟨rfl, _, res_tmp (res_tmp (res_tmp res_nil)), rfl, ?_⟩)))
    simp only [simq, Int.reduceEq, Nat.reduceEqDiff, tupled, nx_none h]; rfl
theorem put_app {L d o T bytes : Nat} {cs xs new : List Value} {u y : Value} (R : Row s d cs) (hd : d < L) (hL : L ≤ s.next) (g : Gr s L 1 u xs) (ho : o + 1 ≤ cs.length) (hy : Feed s 1 y new) (hr : (xs.length + new.length) * bytes ≤ room) :
    ∃ u' s1 s2, appendOp (tag T 1) 1 bytes s u y = some (u', s1) ∧ s1.put ⟨d, o, none⟩ [u'] = some s2 ∧ Row s2 d (splice cs o [u']) ∧ Gr s2 L 1 u' (xs ++ new) ∧ s.next ≤ s2.next ∧ (∀ c, c < L → c ≠ d → s2.get c = s.get c) ∧ storable u' = true ∧ vcells u' = [u'] ∧ Nat.beq (lenL [u']) 1 = true := by
  obtain ⟨n, h1, h2, h3⟩ := hy
  obtain ⟨u', s1, e, g1, g2, g3⟩ := append_gr (bytes := bytes) (tg := tag T 1) (by decide) (esz_tag (by decide)) g hL h1 h2 h3 (by
    intro k hk
    rw [Nat.mul_one] at hk h3
    rw [← hk, ← h3]
    exact hr)
  have R1 : Row s1 d cs := R.low g2 hd
  obtain ⟨s2, p, R2, n2, f2⟩ := R1.put (o := o) (vs := [u']) ho
  refine ⟨u', s1, s2, e, p, R2, g1.but (but_put n2 f2) hd, by rw [n2]; exact g2.2.1, fun c hc hcd => (f2 c hcd).trans (g2.2.2 c hc), g1.cells.1, g1.cells.2, rfl⟩
theorem Two.on {L : Nat} (h : Two a d s t) (hn : t.next ≤ u.next) (hL : s.next ≤ L) (k : ∀ c, c < L → c ≠ d → u.get c = t.get c) : Two a d s u :=
  ⟨Nat.le_trans h.1 hn, fun c hc ha hd => (k c (by omega) hd).trans (h.2 c hc ha hd)⟩
set_option maxHeartbeats 4000000 in
theorem trailer_run (hC : Codes E) (hf : Has E f Code._tithing_tithingref14_reader_trailer) (R : Rdr s hi a v ls k) {c0 c1 c2 c3 : Value} (D : Row s d [c0, c1, c2, c3, .slice none 0 0]) (had : a < d) (hds : d < s.next) : Cv E f [ptr a 0, ptr d 0] s fun r t => Two a d s t ∧ r = .bool (trailR (ls.drop k)).isSome ∧ ∀ tl, trailR (ls.drop k) = some tl → ∃ w, Row t d [c0, c1, c2, c3, w] ∧ Mid t s.next t.next 1 w (tl.map strOf) := by
  refine Cv_of hf.code ?_
  have h0 : (Tr.ofList (.e : Fr) 0 [ptr a 0, ptr d 0]).get 0 = some (ptr a 0) := rfl
  have h1 : (Tr.ofList (.e : Fr) 0 [ptr a 0, ptr d 0]).get 1 = some (ptr d 0) := rfl
  generalize (Tr.ofList (.e : Fr) 0 [ptr a 0, ptr d 0]) = fr0 at h0 h1
  unfold Code._tithing_tithingref14_reader_trailer
  refine W_seq (W_region (by simp only [simq, Int.reduceEq, Nat.reduceEqDiff]; rfl) ?_)
  refine W_block ?_
  refine W_inv (fun m fr t => ∃ j acc w, m = ls.length - j ∧ Rdr t hi a v ls j ∧ Row t d [c0, c1, c2, c3, w] ∧ Gr t s.next 1 w (acc.map strOf) ∧ Two a d s t ∧ acc.length ≤ j ∧ trailR (ls.drop k) = (trailR (ls.drop j)).map (acc ++ ·) ∧ fr.get 0 = some (ptr a 0) ∧ fr.get 1 = some (ptr d 0)) ?_ (ls.length - k) _ s ⟨k, [], .slice none 0 0, rfl, R, D, .nil, Two.refl _ _ _, Nat.zero_le _, by simp, by simp only [simq, Int.reduceEq, Nat.reduceEqDiff, h0], by simp only [simq, Int.reduceEq, Nat.reduceEqDiff, h1]⟩
  rintro m fr t ⟨j, acc, w, rfl, Rt, Dt, gw, F, hacc, htr, k0, k1⟩
  unfold Code._tithing_tithingref14_reader_trailer_l0
  have hjl := Rt.kle
  have hfew := Rt.few
  refine W_block (W_seq (W_opsM (Wo_run (by simp only [simq, Int.reduceEq, Nat.reduceEqDiff, k0]; rfl) (Wo_call hC._tithing_tithingref14_reader_next.prim (args := [ptr a 0]) (by simp only [simq, Int.reduceEq, Nat.reduceEqDiff]; try rfl) ((next_run hC hC._tithing_tithingref14_reader_next Rt).mono ?_)))))
  rintro _ _ ⟨hs, rfl⟩
  rw [hs]; clear hs
  refine Wo_all (by simp only [simq, Int.reduceEq, Nat.reduceEqDiff, nth0, nth1, nth2]; rfl) ?_
  show W E _ _ _ _
  obtain ⟨p, c, rfl⟩ := Rt.slice
  have cell0 : t.cell ⟨a, 0, none⟩ = some (.slice p ls.length c) := Rt.row.cell 0
  have cell1 : t.cell ⟨a, 1, none⟩ = some (.int .i64 (j : Nat)) := Rt.row.cell 1
  have w1 : wr .i64 (((ls.length : Nat) : Int) - 1) = ((ls.length : Nat) : Int) - 1 := wr_i64 (by omega) (by omega)
  by_cases h : j < ls.length
  case neg =>
    have e0 : ls.drop j = [] := List.drop_eq_nil_of_le (by omega)
    rw [e0, trailR] at htr
    have d9 : decide (((j : Nat) : Int) = ((ls.length : Nat) : Int) - 1) = false := by simp; omega
    have n9 : (((nx ls j).2.1 : Nat) : Int) = 9 := by rw [nx_none h]; rfl
    refine W_seq (W_seq (W_region (by simp only [simq, Int.reduceEq, Nat.reduceEqDiff, n9]; rfl) (W_then (by simp only [simq, Int.reduceEq, Nat.reduceEqDiff]) (W_seq (W_region (by simp only [simq, Int.reduceEq, Nat.reduceEqDiff, n9, k0, cell0, cell1, nilOk_ptr, Int.ofNat_eq_natCast, w1, d9]; rfl) (W_ret ⟨rfl, _, res_tmp res_nil, F, ?_, fun tl ht => ?_⟩))))))
    · simp only [simq, Int.reduceEq, Nat.reduceEqDiff, tupled]; rw [htr]; rfl
    · rw [htr] at ht; cases ht
  have hx := nx_some h
  have e0 : ls.drop j = ls[j] :: ls.drop (j + 1) := List.drop_eq_getElem_cons h
  rw [e0, trailR] at htr
  have n1 : (((nx ls j).2.1 : Nat) : Int) = (((kd ls[j]).1 : Nat) : Int) := by rw [hx]
  have n0 : (nx ls j).1 = ls[j] := by rw [hx]
  by_cases z0 : (kd ls[j]).1 = 0
  case neg =>
    rw [if_neg z0] at htr
    have d0 : decide ((((kd ls[j]).1 : Nat) : Int) = 0) = false := by simp; omega
    by_cases z9 : (kd ls[j]).1 = 9
    case neg =>
      rw [if_neg (fun c => z9 c.1)] at htr
      have d9 : decide ((((kd ls[j]).1 : Nat) : Int) = 9) = false := by simp; omega
      refine W_seq (W_seq (W_region (by simp only [simq, Int.reduceEq, Nat.reduceEqDiff, n1, d0]; rfl) (W_then (by simp only [simq, Int.reduceEq, Nat.reduceEqDiff]) (W_seq (W_region (by simp only [simq, Int.reduceEq, Nat.reduceEqDiff, n1, d9]; rfl) (W_ret ⟨rfl, _, res_tmp res_nil, F, ?_, fun tl ht => ?_⟩))))))
      · simp only [simq, Int.reduceEq, Nat.reduceEqDiff, tupled]; rw [htr]; rfl
      · rw [htr] at ht; cases ht
    have d9 : decide ((((kd ls[j]).1 : Nat) : Int) = 9) = true := by simp; omega
    by_cases zl : j + 1 = ls.length
    · have e1 : ls.drop (j + 1) = [] := List.drop_eq_nil_of_le (by omega)
      have dl : decide (((j : Nat) : Int) = ((ls.length : Nat) : Int) - 1) = true := by simp; omega
      rw [if_pos ⟨z9, e1⟩] at htr
      refine W_seq (W_seq (W_region (by simp only [simq, Int.reduceEq, Nat.reduceEqDiff, n1, d0]; rfl) (W_then (by simp only [simq, Int.reduceEq, Nat.reduceEqDiff]) (W_seq (W_region (by simp only [simq, Int.reduceEq, Nat.reduceEqDiff, n1, d9, k0, cell0, cell1, nilOk_ptr, Int.ofNat_eq_natCast, w1, dl]; rfl) (W_ret ⟨rfl, _, res_tmp res_nil, F, ?_, fun tl ht => ?_⟩))))))
      · simp only [simq, Int.reduceEq, Nat.reduceEqDiff, tupled]; rw [htr]; rfl
      · rw [htr] at ht
        have ht : acc ++ [] = tl := Option.some.inj ht
        rw [List.append_nil] at ht
        subst ht
        exact ⟨w, Dt, gw.mid⟩
    · have e1 : ls.drop (j + 1) ≠ [] := by
        intro e
        have := congrArg List.length e
        simp at this
        omega
      have dl : decide (((j : Nat) : Int) = ((ls.length : Nat) : Int) - 1) = false := by simp; omega
      rw [if_neg (fun c => e1 c.2)] at htr
      refine W_seq (W_seq (W_region (by simp only [simq, Int.reduceEq, Nat.reduceEqDiff, n1, d0]; rfl) (W_then (by simp only [simq, Int.reduceEq, Nat.reduceEqDiff]) (W_seq (W_region (by simp only [simq, Int.reduceEq, Nat.reduceEqDiff, n1, d9, k0, cell0, cell1, nilOk_ptr, Int.ofNat_eq_natCast, w1, dl]; rfl) (W_ret ⟨rfl, _, res_tmp res_nil, F, ?_, fun tl ht => ?_⟩))))))
      · simp only [simq, Int.reduceEq, Nat.reduceEqDiff, tupled]; rw [htr]; rfl
      · rw [htr] at ht; cases ht
  rw [if_pos z0] at htr
  have d0 : decide ((((kd ls[j]).1 : Nat) : Int) = 0) = true := by simp; omega
  refine W_seq (W_seq (W_region (by simp only [simq, Int.reduceEq, Nat.reduceEqDiff, n1, d0]; rfl) (W_else (by simp only [simq, Int.reduceEq, Nat.reduceEqDiff]) (W_skip ?_))))
  have cell4 : t.cell ⟨d, 4, none⟩ = some w := Dt.cell 4
  have F1 := F.1
  refine W_seq (W_ops (Wo_run (l := [_, _, _, _, _, _]) (by simp only [simq, Int.reduceEq, Nat.reduceEqDiff, k1, n0, cell4, nilOk_ptr]; rfl) ?_))
  refine Wo_buildSlice (size := 1) (lo := t.next) (n := 1) (cs := [strOf ls[j]]) (by simp only [simq, Int.reduceEq, Nat.reduceEqDiff]; rfl) rfl (Nat.le_add_right _ _) (by rw [next_skip]; omega) (by decide) ?_
  rintro s2 ⟨D2, -⟩ l2 hs2
  have L2 : Low t.next t s2 := ((Low.self t).skip 11).trans l2
  have F2 : Two a d s s2 := F.trans L2.two
  have Row2 := Dt.low L2 (by omega)
  have R2 := Rt.low L2 Rt.lt
  have g2 := gw.low L2 (Nat.le_refl _)
  obtain ⟨w', s3, s4, e3, p4, Row4, g4, n4, f4, x4, y4, z4⟩ := put_app (o := 4) (T := 9) (bytes := 16) Row2 hds F2.1 g2 (by simp) D2.feed (by simp [room]; omega)
  have K4 : ∀ c, c < s.next → c ≠ d → s4.get c = s2.get c := f4
  refine Wo_all (by simp only [simq, Int.reduceEq, Nat.reduceEqDiff, k1, nilOk_ptr, e3, p4, x4, y4, z4]; rfl) ?_
  show W E _ _ _ _
  have F4 : Two a d s s4 := F2.on n4 (Nat.le_refl _) K4
  have hge := Rt.ge
  have hlt := R.lt
  have R4 : Rdr s4 hi a (.slice p ls.length c) ls j := by
    refine ⟨?_, ?_, R2.few, R2.sh, R2.ge, Nat.lt_of_lt_of_le R2.lt n4, R2.kle⟩
    · obtain ⟨es, hr⟩ := R2.row
      exact ⟨es, (K4 a hlt (by omega)).trans hr⟩
    · exact R2.sl.sub fun c hc => K4 c (by omega) (by omega)
  obtain ⟨s5, p5, R5, B5, n5, w5⟩ := R4.step h
  have cell1' : s4.cell ⟨a, 1, none⟩ = some (.int .i64 (j : Nat)) := R4.row.cell 1
  refine W_region (by simp only [simq, Int.reduceEq, Nat.reduceEqDiff, k0, cell1', nilOk_ptr, w5, p5]; rfl) ?_
  have F41 := F4.1
  refine ⟨ls.length - (j + 1), by omega, j + 1, acc ++ [ls[j]], w', rfl, R5, Row4.but B5 (by omega) (by omega), ?_, F4.trans B5.two, by simp; omega, ?_, by simp only [simq, Int.reduceEq, Nat.reduceEqDiff, k0], by simp only [simq, Int.reduceEq, Nat.reduceEqDiff, k1]⟩
  · rw [List.map_append]
    exact g4.but B5 hlt
  · rw [htr, Option.map_map]
    congr 1
    funext z
    simp
end
end
end Go.Ev
