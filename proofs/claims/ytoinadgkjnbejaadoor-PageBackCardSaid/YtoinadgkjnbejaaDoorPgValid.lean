/-
  Valid, Format, told.
-/
import Derived.Test.YtoinadgkjnbejaaDoorPgEq
set_option linter.unusedVariables false
set_option linter.unusedSimpArgs false
namespace Go.Ev
noncomputable section
open Go.Pg
theorem small_mild {d : Doc} (h : Small d) : Mild d := ⟨by have := h.h; omega, by have := h.p; omega, by have := h.g; omega, fun p hp => by have := h.gp p hp; omega, by have := h.t; omega⟩
section
variable {E : Env} {f : FuncId} {s t u : St}
set_option maxHeartbeats 8000000 in
theorem PValid_run (hC : Codes E) (P : Prims E) (hf : Has E f Code.page_Valid) (G : Gl s) {hi : Nat} {cs : List Value} {d : Doc} (hd : DocV s hi cs d) (hhi : hi ≤ s.next) (ft : Fits d) (hlen : (textD d).length ≤ 100000) : Cv E f [.agg ⟨cs⟩] s fun r t => r = .bool (decide (docR (textD d) = some d)) ∧ Low s.next s t := by
  have hcs : cs.length = 5 := by obtain ⟨a, b, c, e, rfl, _⟩ := hd; rfl
  refine Cv_of hf.code ?_
  have h0 : (Tr.ofList (.e : Fr) 0 [.agg ⟨cs⟩]).get 0 = some (.agg ⟨cs⟩) := rfl
  generalize (Tr.ofList (.e : Fr) 0 [.agg ⟨cs⟩]) = fr0 at h0
  unfold Code.page_Valid
  refine W_seq (W_ops (Wo_box (lo := s.next) (s0 := s) (z := cs) (by simp only [simq, Int.reduceEq, Nat.reduceEqDiff, h0]; rfl) rfl rfl ((Low.self s).skip 2) (Nat.le_add_right _ _) (by rw [next_skip]; omega) fun s1 B1 n1 _ => Wo_all (by simp only [simq, Int.reduceEq, Nat.reduceEqDiff]; rfl) ?_))
  show W E _ _ _ _
  rw [Nat.add_zero] at B1
  rw [next_skip] at n1
  have R1 := B1.own
  have L1 : Low s.next s s1 := B1.low
  have d1 := hd.low L1 hhi
  have r1 : s1.row ⟨s.next, 0, none⟩ 5 = some cs := R1.row hcs.symm
  have m1 := next_skip s1 9
  have K1 : Low s1.next s1 (s1.skip 9) := (Low.self s1).skip 9
  have G1 := G.next L1
  refine W_seq (W_opsM (Wo_run (by simp only [simq, Int.reduceEq, Nat.reduceEqDiff, r1]; rfl) (Wo_call hC.page_format.prim (args := [.agg ⟨cs⟩]) (by simp only [simq, Int.reduceEq, Nat.reduceEqDiff]; try rfl) ((format_run hC P hC.page_format (s := s1.skip 9) (G1.skip 9) (d1.low K1 (by omega)) (by omega) ft).mono ?_))))
  rintro _ s2 ⟨rfl, l2⟩
  have hl2 := l2.2.1
  have K2 : Low s1.next s1 s2 := K1.trans (l2.weak (by omega))
  refine Wo_call hC.page_parse.prim (args := [strOf (textD d)]) (by simp only [simq, Int.reduceEq, Nat.reduceEqDiff]; try rfl) ((parse_run hC P hC.page_parse (s := s2) (G1.next K2) hlen).mono ?_)
  rintro _ s3 ⟨l3, ds, hds, rfl, hdd⟩
  have hl3 := l3.2.1
  have K3 : Low s1.next s1 s3 := K2.trans (l3.weak K2.2.1)
  refine Wo_run (l := [_, _, _]) (by simp only [simq, Int.reduceEq, Nat.reduceEqDiff, nth0, nth1]; rfl) ?_
  refine Wo_alloc (lo := s1.next) (s0 := s1) K3 (by omega) (by omega) fun s4 B4 n4 f4 => ?_
  obtain ⟨s5, p5, R5, n5, f5⟩ := B4.own.whole rfl hds
  refine Wo_all (by simp only [simq, Int.reduceEq, Nat.reduceEqDiff, stor_agg, vcells_agg, five hds, p5]; rfl) ?_
  show W E _ _ _ _
  have B5 : But (s1.next + 6) s3 s5 := ⟨by omega, fun b hb hne => (f5 b hne).trans (f4 b hne)⟩
  have K5 : Low s1.next s1 s5 := K3.trans (But.low B5 (by omega) (by omega))
  have L5 : Low s.next s s5 := L1.trans (K5.weak L1.2.1)
  have r1' : s5.row ⟨s.next, 0, none⟩ 5 = some cs := (R1.low K5 (by omega)).row hcs.symm
  have r5 : s5.row ⟨s1.next + 6, 0, none⟩ 5 = some ds := R5.row hds.symm
  have d5 : DocV s5 s5.next cs d := (d1.low K5 (by omega)).wide (by omega)
  cases hp : docR (textD d) with
  | none =>
    refine W_seq (W_opsM (Wo_all (by simp only [simq, Int.reduceEq, Nat.reduceEqDiff, Option.isSome_none]; rfl) ?_))
    refine W_ret ⟨rfl, _, res_tmp res_nil, ?_, L5⟩
    simp only [simq, Int.reduceEq, Nat.reduceEqDiff, tupled]; try rfl
  | some e =>
    have hM : DocM s5 s2.next s3.next ds e := (hdd e hp).but B5 (Nat.le_refl _) (.inl (by omega))
    have e5 : DocV s5 s5.next ds e := hM.docV.wide (by omega)
    refine W_seq (W_opsM (Wo_run (by simp only [simq, Int.reduceEq, Nat.reduceEqDiff, Option.isSome_some, r1', r5]; rfl) (Wo_gt (by simp only [simq, Int.reduceEq, Nat.reduceEqDiff]) (Wo_call hC.page_Same.prim (args := [.agg ⟨ds⟩, .agg ⟨cs⟩]) (by simp only [simq, Int.reduceEq, Nat.reduceEqDiff]; try rfl) ((PSame_run hC hC.page_Same (s := s5) e5 d5 (Nat.le_refl _) (small_mild (doc_small hp hlen))).mono ?_)))))
    rintro _ s6 ⟨rfl, l6⟩
    refine Wo_all (by simp only [simq, Int.reduceEq, Nat.reduceEqDiff]; rfl) ?_
    show W E _ _ _ _
    refine W_ret ⟨rfl, _, res_tmp res_nil, ?_, L5.trans (l6.weak L5.2.1)⟩
    have dd : decide (some e = some d) = decide (e = d) := by rw [decide_eq_decide]; exact ⟨Option.some.inj, congrArg _⟩
    simp only [simq, Int.reduceEq, Nat.reduceEqDiff, tupled, dd]
def fmtOf (d : Doc) : List Value := if docR (textD d) = some d then [strOf (textD d), .int .i64 0] else [strOf [], .int .i64 2]
set_option maxHeartbeats 8000000 in
theorem PFormat_run (hC : Codes E) (P : Prims E) (hf : Has E f Code.page_Format) (G : Gl s) {hi : Nat} {cs : List Value} {d : Doc} (hd : DocV s hi cs d) (hhi : hi ≤ s.next) (ft : Fits d) (hlen : (textD d).length ≤ 100000) : Cv E f [.agg ⟨cs⟩] s fun r t => r = .tuple ⟨fmtOf d⟩ ∧ Low s.next s t := by
  have hcs : cs.length = 5 := by obtain ⟨a, b, c, e, rfl, _⟩ := hd; rfl
  refine Cv_of hf.code ?_
  have h0 : (Tr.ofList (.e : Fr) 0 [.agg ⟨cs⟩]).get 0 = some (.agg ⟨cs⟩) := rfl
  generalize (Tr.ofList (.e : Fr) 0 [.agg ⟨cs⟩]) = fr0 at h0
  unfold Code.page_Format
  refine W_seq (W_ops (Wo_box (lo := s.next) (s0 := s) (z := cs) (by simp only [simq, Int.reduceEq, Nat.reduceEqDiff, h0]; rfl) rfl rfl ((Low.self s).skip 3) (Nat.le_add_right _ _) (by rw [next_skip]; omega) fun s1 B1 n1 _ => Wo_all (by simp only [simq, Int.reduceEq, Nat.reduceEqDiff]; rfl) ?_))
  show W E _ _ _ _
  rw [Nat.add_zero] at B1
  rw [next_skip] at n1
  have R1 := B1.own
  have L1 : Low s.next s s1 := B1.low
  have d1 := hd.low L1 hhi
  have r1 : s1.row ⟨s.next, 0, none⟩ 5 = some cs := R1.row hcs.symm
  have G1 := G.next L1
  refine W_seq (W_seq (W_opsM (Wo_run (by simp only [simq, Int.reduceEq, Nat.reduceEqDiff, r1]; rfl) (Wo_call hC.page_Valid.prim (args := [.agg ⟨cs⟩]) (by simp only [simq, Int.reduceEq, Nat.reduceEqDiff]; try rfl) ((PValid_run hC P hC.page_Valid (s := s1) G1 d1 (by omega) ft hlen).mono ?_)))))
  rintro _ s2 ⟨rfl, l2⟩
  have hl2 := l2.2.1
  refine Wo_all (by simp only [simq, Int.reduceEq, Nat.reduceEqDiff]; rfl) ?_
  show W E _ _ _ _
  have L2 : Low s.next s s2 := L1.trans (l2.weak L1.2.1)
  by_cases hv : docR (textD d) = some d
  case neg =>
    have dv : decide (docR (textD d) = some d) = false := decide_eq_false hv
    refine W_then (by simp only [simq, Int.reduceEq, Nat.reduceEqDiff, dv]) (W_seq (W_region (by simp only [simq, Int.reduceEq, Nat.reduceEqDiff]; rfl) (W_ret ⟨rfl, _, res_tmp (res_tmp res_nil), ?_, L2⟩)))
    rw [fmtOf, if_neg hv]
    simp only [simq, Int.reduceEq, Nat.reduceEqDiff, tupled]
  have dv : decide (docR (textD d) = some d) = true := decide_eq_true hv
  refine W_else (by simp only [simq, Int.reduceEq, Nat.reduceEqDiff, dv]) (W_skip ?_)
  show W E _ _ _ _
  have r2 : s2.row ⟨s.next, 0, none⟩ 5 = some cs := (R1.low l2 (by omega)).row hcs.symm
  refine W_seq (W_opsM (Wo_run (by simp only [simq, Int.reduceEq, Nat.reduceEqDiff, r2]; rfl) (Wo_call hC.page_format.prim (args := [.agg ⟨cs⟩]) (by simp only [simq, Int.reduceEq, Nat.reduceEqDiff]; try rfl) ((format_run hC P hC.page_format (s := s2) (G1.next l2) (d1.low l2 (by omega)) (by omega) ft).mono ?_))))
  rintro _ s3 ⟨rfl, l3⟩
  refine Wo_all (by simp only [simq, Int.reduceEq, Nat.reduceEqDiff]; rfl) ?_
  show W E _ _ _ _
  refine W_ret ⟨rfl, _, res_tmp (res_tmp res_nil), ?_, L2.trans (l3.weak L2.2.1)⟩
  rw [fmtOf, if_pos hv]
  simp only [simq, Int.reduceEq, Nat.reduceEqDiff, tupled]
def toldOf (d : Doc) : List Value := if 20000 < (textD d).length then [strOf [], .int .i64 3] else [strOf (textD d), .int .i64 0]
set_option maxHeartbeats 4000000 in
theorem told_run (hC : Codes E) (P : Prims E) (hf : Has E f Code.page_told) (G : Gl s) {hi : Nat} {cs : List Value} {d : Doc} (hd : DocV s hi cs d) (hhi : hi ≤ s.next) (ft : Fits d) : Cv E f [.agg ⟨cs⟩] s fun r t => r = .tuple ⟨toldOf d⟩ ∧ Low s.next s t := by
  have hcs : cs.length = 5 := by obtain ⟨a, b, c, e, rfl, _⟩ := hd; rfl
  refine Cv_of hf.code ?_
  have h0 : (Tr.ofList (.e : Fr) 0 [.agg ⟨cs⟩]).get 0 = some (.agg ⟨cs⟩) := rfl
  generalize (Tr.ofList (.e : Fr) 0 [.agg ⟨cs⟩]) = fr0 at h0
  unfold Code.page_told
  refine W_seq (W_ops (Wo_box (lo := s.next) (s0 := s) (z := cs) (by simp only [simq, Int.reduceEq, Nat.reduceEqDiff, h0]; rfl) rfl rfl ((Low.self s).skip 3) (Nat.le_add_right _ _) (by rw [next_skip]; omega) fun s1 B1 n1 _ => Wo_all (by simp only [simq, Int.reduceEq, Nat.reduceEqDiff]; rfl) ?_))
  show W E _ _ _ _
  rw [Nat.add_zero] at B1
  rw [next_skip] at n1
  have R1 := B1.own
  have L1 : Low s.next s s1 := B1.low
  have d1 := hd.low L1 hhi
  have r1 : s1.row ⟨s.next, 0, none⟩ 5 = some cs := R1.row hcs.symm
  have G1 := G.next L1
  refine W_seq (W_opsM (Wo_run (by simp only [simq, Int.reduceEq, Nat.reduceEqDiff, r1]; rfl) (Wo_call hC.page_format.prim (args := [.agg ⟨cs⟩]) (by simp only [simq, Int.reduceEq, Nat.reduceEqDiff]; try rfl) ((format_run hC P hC.page_format (s := s1) G1 d1 (by omega) ft).mono ?_))))
  rintro _ s2 ⟨rfl, l2⟩
  refine Wo_all (by simp only [simq, Int.reduceEq, Nat.reduceEqDiff]; rfl) ?_
  show W E _ _ _ _
  have L2 : Low s.next s s2 := L1.trans (l2.weak L1.2.1)
  by_cases hv : 20000 < (textD d).length
  case pos =>
    have dv : decide ((20000 : Int) < (((textD d).length : Nat) : Int)) = true := by simp; omega
    refine W_seq (W_seq (W_region (by simp only [simq, Int.reduceEq, Nat.reduceEqDiff, lenL_eq, Int.ofNat_eq_natCast, dv]; rfl) (W_then (by simp only [simq, Int.reduceEq, Nat.reduceEqDiff]) (W_seq (W_region (by simp only [simq, Int.reduceEq, Nat.reduceEqDiff]; rfl) (W_ret ⟨rfl, _, res_tmp (res_tmp res_nil), ?_, L2⟩))))))
    rw [toldOf, if_pos hv]
    simp only [simq, Int.reduceEq, Nat.reduceEqDiff, tupled]
  have dv : decide ((20000 : Int) < (((textD d).length : Nat) : Int)) = false := by simp; omega
  refine W_seq (W_seq (W_region (by simp only [simq, Int.reduceEq, Nat.reduceEqDiff, lenL_eq, Int.ofNat_eq_natCast, dv]; rfl) (W_else (by simp only [simq, Int.reduceEq, Nat.reduceEqDiff]) (W_skip ?_))))
  show W E _ _ _ _
  refine W_seq (W_region (by simp only [simq, Int.reduceEq, Nat.reduceEqDiff]; rfl) (W_ret ⟨rfl, _, res_tmp (res_tmp res_nil), ?_, L2⟩))
  rw [toldOf, if_neg hv]
  simp only [simq, Int.reduceEq, Nat.reduceEqDiff, tupled]
end
end
end Go.Ev
