/-
  The program's parts of a document: windows on its lines, the lines of a part.
-/
import Derived.Test.YtoinadgkjnbejaaDoorPgApp
set_option linter.unusedVariables false
set_option linter.unusedSimpArgs false
namespace Go.Ev
noncomputable section
open Go.Pg
theorem word_fin : ∀ K j : Fin 10, decide (wordOf K.1 = wordOf j.1) = decide (K.1 = j.1) := by decide
theorem word_dec {K : Nat} (h : K ≤ 9) (j : Nat) (hj : j ≤ 9) : decide (wordOf K = wordOf j) = decide (K = j) := word_fin ⟨K, by omega⟩ ⟨j, by omega⟩
theorem word_plain (x : Ln) : decide (wordOf (kd x).1 = ([] : Ln)) = decide ((kd x).1 = 0) := word_dec (kd_le x) 0 (by decide)
theorem word_title (x : Ln) : decide (wordOf (kd x).1 = ([37, 37, 84, 105, 116, 108, 101, 58, 32] : Ln)) = decide ((kd x).1 = 1) := word_dec (kd_le x) 1 (by decide)
theorem word_pages (x : Ln) : decide (wordOf (kd x).1 = ([37, 37, 80, 97, 103, 101, 115, 58, 32] : Ln)) = decide ((kd x).1 = 2) := word_dec (kd_le x) 2 (by decide)
theorem word_include (x : Ln) : decide (wordOf (kd x).1 = ([37, 37, 73, 110, 99, 108, 117, 100, 101, 58, 32] : Ln)) = decide ((kd x).1 = 4) := word_dec (kd_le x) 4 (by decide)
theorem word_begin (x : Ln) : decide (wordOf (kd x).1 = ([37, 37, 66, 101, 103, 105, 110, 58, 32] : Ln)) = decide ((kd x).1 = 5) := word_dec (kd_le x) 5 (by decide)
theorem word_end (x : Ln) : decide (wordOf (kd x).1 = ([37, 37, 69, 110, 100] : Ln)) = decide ((kd x).1 = 6) := word_dec (kd_le x) 6 (by decide)
theorem word_page (x : Ln) : decide (wordOf (kd x).1 = ([37, 37, 80, 97, 103, 101, 58, 32] : Ln)) = decide ((kd x).1 = 7) := word_dec (kd_le x) 7 (by decide)
theorem word_trailer (x : Ln) : decide (wordOf (kd x).1 = ([37, 37, 84, 114, 97, 105, 108, 101, 114] : Ln)) = decide ((kd x).1 = 8) := word_dec (kd_le x) 8 (by decide)
def bodyN (o : Option (Nat × Bool)) : Nat := o.elim 0 (·.1)
def bodyO (o : Option (Nat × Bool)) : Bool := o.elim false (·.2)
section
variable {E : Env} {f : FuncId} {s t u : St} {fr : Fr} {Q : Fr → St → Prop}
theorem Wo_opA {b ix : Nat} {d : Option Nat} {ops : List COper} {op : Cop} {v : Value} {s' : St} {y : Option Nat × Cop × Option (Option Nat × Bool)} {l : List (Option Nat × Cop × Option (Option Nat × Bool))} (h : (oneOp op).run (pc E) noRound fr s (b + ix) = some (v, s')) (ha : againOk fr s' (y :: l) = true) (k : Wo E b ops (putD fr d v) s' Q) : Wo E b (⟨d, op, none, ix, y :: l⟩ :: ops) fr s Q := by
  obtain ⟨m, f2, s2, k2, k3⟩ := k
  refine ⟨m, f2, s2, ?_, k3⟩
  have h' : (oneOp op).run (one1 (callF E (runC E m))) noRound fr s (b + ix) = some (v, s') := oneOp_mono (pc_le _) _ _ _ _ _ h
  rw [ops_again, h', ob_some]
  show must (againOk fr s' (y :: l)) _ = _
  rw [ha, must_true]
  exact k2
set_option maxHeartbeats 8000000 in
theorem body_run (hC : Codes E) (P : Prims E) (hf : Has E f Code.page_body) (G : Gl s) {hi : Nat} {v : Value} {l : List Ln} (hv : Texts s hi v l) (hhi : hi ≤ s.next) (hl : l.length ≤ 100000) (hsh : ∀ x ∈ l, x.length ≤ 100000) : Cv E f [v] s fun r t => Low s.next s t ∧ r = .tuple ⟨[.int .i64 (bodyN (bodyP false l) : Nat), .bool (bodyO (bodyP false l))]⟩ := by
  obtain ⟨p, m, c, rfl, hm⟩ := hv.parts
  rw [List.length_map, Nat.mul_one] at hm
  subst hm
  refine Cv_of hf.code ?_
  have h0 : (Tr.ofList (.e : Fr) 0 [.slice p l.length c]).get 0 = some (.slice p l.length c) := rfl
  generalize (Tr.ofList (.e : Fr) 0 [.slice p l.length c]) = fr0 at h0
  unfold Code.page_body
  refine W_seq (W_region (by simp only [simq, Int.reduceEq, Nat.reduceEqDiff]; rfl) ?_)
  refine W_seq (W_region (by simp only [simq, Int.reduceEq, Nat.reduceEqDiff]; rfl) ?_)
  refine W_seq (W_seq (W_region (by simp only [simq, Int.reduceEq, Nat.reduceEqDiff, h0]; rfl) ?_))
  refine W_block ?_
  unfold Code.page_body_l0
  refine W_for (n := l.length) (fun i fr t => Low s.next s t ∧ fr.get 0 = some (.slice p l.length c) ∧ fr.get 9 = some (.slice p l.length c) ∧ ∃ b, fr.get 4 = some (.bool b) ∧ bodyP false l = (bodyP b (l.drop i)).map (fun x => (x.1 + i, x.2))) (by omega) (by decide) ?_ ?_ ?_ 0 (Nat.zero_le _) ⟨Low.self s, by simp only [simq, Int.reduceEq, Nat.reduceEqDiff, h0], by simp only [simq, Int.reduceEq, Nat.reduceEqDiff], false, by simp only [simq, Int.reduceEq, Nat.reduceEqDiff], by simp⟩ (by simp only [simq, Int.reduceEq, Nat.reduceEqDiff]; rfl) (by simp only [simq, Int.reduceEq, Nat.reduceEqDiff]; rfl)
  · rintro i fr t x v hx ⟨e0, e1, e2, b, e3, e4⟩
    refine ⟨e0, ?_, ?_, b, ?_, e4⟩ <;> rcases hx with rfl | rfl | rfl <;> simp only [simq, Int.reduceEq, Nat.reduceEqDiff, e1, e2, e3]
  · rintro i fr t hlt ⟨L, e0, e9, b, e4, hb⟩ h11 h10
    have hv' := hv.low L hhi
    obtain ⟨a, rfl, hcell⟩ := hv'.cell (i := i) (by rw [List.length_map]; exact hlt)
    rw [List.getElem?_map, List.getElem?_eq_getElem hlt, Option.map_some] at hcell
    have hbl : Nat.blt i l.length = true := by rw [Nat.blt_eq]; exact hlt
    have hmem := hsh _ (List.getElem_mem hlt)
    rw [List.drop_eq_getElem_cons hlt, bodyP] at hb
    generalize hX : l[i] = X at *
    have step : ∀ o : Option (Nat × Bool), ((o.map fun x => (x.1 + 1, x.2)).map fun x => (x.1 + i, x.2)) = o.map fun x => (x.1 + (i + 1), x.2) := by
      intro o
      rw [Option.map_map]
      congr 1
      funext z
      simp; omega
    refine W_seq (W_region (by simp only [simq, Int.reduceEq, Nat.reduceEqDiff, e9, h11, hbl, hcell]; rfl) ?_)
    refine W_seq (W_opsM (Wo_run (by simp only [simq, Int.reduceEq, Nat.reduceEqDiff]; rfl) (Wo_call hC.page_comment.prim (args := [strOf X]) (by simp only [simq, Int.reduceEq, Nat.reduceEqDiff]; try rfl) ((comment_run hC P hC.page_comment (G.next L) X hmem).mono ?_))))
    rintro _ t2 ⟨rfl, l2⟩
    have L2 : Low s.next s t2 := L.trans (l2.weak L.2.1)
    refine Wo_all (by simp only [simq, Int.reduceEq, Nat.reduceEqDiff, nth0, nth1]; rfl) ?_
    show W E _ _ _ _
    refine W_block ?_
    have go : ∀ {fr' : Fr} {b' : Bool}, bodyP false l = ((bodyP b' (l.drop (i + 1))).map fun x => (x.1 + 1, x.2)).map (fun x => (x.1 + i, x.2)) → fr'.get 0 = some (.slice (some a) l.length c) → fr'.get 9 = some (.slice (some a) l.length c) → fr'.get 4 = some (.bool b') → fr'.get 11 = some (.int .i64 (i : Nat)) → fr'.get 10 = some (.int .i64 (l.length : Nat)) → (Low s.next s t2 ∧ fr'.get 0 = some (.slice (some a) l.length c) ∧ fr'.get 9 = some (.slice (some a) l.length c) ∧ ∃ b, fr'.get 4 = some (.bool b) ∧ bodyP false l = (bodyP b (l.drop (i + 1))).map (fun x => (x.1 + (i + 1), x.2))) ∧ fr'.get 11 = some (.int .i64 (i : Nat)) ∧ fr'.get 10 = some (.int .i64 (l.length : Nat)) := by
      intro fr' b' h k0 k9 k4 k11 k10
      rw [step] at h
      exact ⟨⟨L2, k0, k9, b', k4, h⟩, k11, k10⟩
    have w6 := word_end X
    have w0 := word_plain X
    have w4 := word_include X
    have w5 := word_begin X
    have w7 := word_page X
    have w8 := word_trailer X
    cases b with
    | true =>
      by_cases z6 : (kd X).1 = 6
      · rw [decide_eq_true z6] at w6
        rw [if_pos (by rw [z6]; rfl)] at hb
        exact W_seq (W_region (by simp only [simq, Int.reduceEq, Nat.reduceEqDiff, e4, w6]; rfl) (W_then (by simp only [simq, Int.reduceEq, Nat.reduceEqDiff]) (W_region (by simp only [simq, Int.reduceEq, Nat.reduceEqDiff]; rfl) (go hb (by simp only [simq, Int.reduceEq, Nat.reduceEqDiff, e0]) (by simp only [simq, Int.reduceEq, Nat.reduceEqDiff, e9]) (by simp only [simq, Int.reduceEq, Nat.reduceEqDiff]) (by simp only [simq, Int.reduceEq, Nat.reduceEqDiff, h11]) (by simp only [simq, Int.reduceEq, Nat.reduceEqDiff, h10])))))
      rw [decide_eq_false z6] at w6
      rw [if_neg (by simp [z6])] at hb
      refine W_seq (W_region (by simp only [simq, Int.reduceEq, Nat.reduceEqDiff, e4, w6]; rfl) (W_else (by simp only [simq, Int.reduceEq, Nat.reduceEqDiff]) ?_))
      have hp := pHasPrefix_run X [37, 37] t2
      have hcm : ([37, 37] : Ln).isPrefixOf X = cmt X := rfl
      rw [hcm] at hp
      cases hc : cmt X with
      | true =>
        rw [hc] at hp
        rw [if_pos (by rw [hc]; rfl)] at hb
        refine W_seq (W_opsM (Wo_all (by simp only [simq, Int.reduceEq, Nat.reduceEqDiff, e4, pc_some P.hasP, hp]; rfl) ?_))
        refine W_then (by simp only [simq, Int.reduceEq, Nat.reduceEqDiff]) (W_seq (W_region (by simp only [simq, Int.reduceEq, Nat.reduceEqDiff]; rfl) (W_ret ⟨rfl, _, res_tmp (res_tmp res_nil), L2, ?_⟩)))
        rw [hb]
        simp only [simq, Int.reduceEq, Nat.reduceEqDiff, tupled]; rfl
      | false =>
        rw [hc] at hp
        rw [if_neg (by rw [hc]; simp), if_pos (by simp)] at hb
        refine W_seq (W_opsM (Wo_all (by simp only [simq, Int.reduceEq, Nat.reduceEqDiff, e4, pc_some P.hasP, hp]; rfl) ?_))
        refine W_else (by simp only [simq, Int.reduceEq, Nat.reduceEqDiff]) ?_
        exact W_seq (W_region (by simp only [simq, Int.reduceEq, Nat.reduceEqDiff, e4]; rfl) (W_then (by simp only [simq, Int.reduceEq, Nat.reduceEqDiff]) (W_skip (go hb (by simp only [simq, Int.reduceEq, Nat.reduceEqDiff, e0]) (by simp only [simq, Int.reduceEq, Nat.reduceEqDiff, e9]) (by simp only [simq, Int.reduceEq, Nat.reduceEqDiff, e4]) (by simp only [simq, Int.reduceEq, Nat.reduceEqDiff, h11]) (by simp only [simq, Int.reduceEq, Nat.reduceEqDiff, h10])))))
    | false =>
      rw [if_neg (by simp), if_neg (by simp)] at hb
      refine W_seq (W_region (by simp only [simq, Int.reduceEq, Nat.reduceEqDiff, e4]; rfl) (W_else (by simp only [simq, Int.reduceEq, Nat.reduceEqDiff]) ?_))
      refine W_seq (W_opsM (Wo_all (by simp only [simq, Int.reduceEq, Nat.reduceEqDiff, e4]; rfl) ?_))
      refine W_else (by simp only [simq, Int.reduceEq, Nat.reduceEqDiff]) ?_
      by_cases z0 : (kd X).1 = 0
      · rw [decide_eq_true z0] at w0
        rw [if_pos (by rw [z0]; rfl)] at hb
        exact W_seq (W_region (by simp only [simq, Int.reduceEq, Nat.reduceEqDiff, e4, w0]; rfl) (W_then (by simp only [simq, Int.reduceEq, Nat.reduceEqDiff]) (W_skip (go hb (by simp only [simq, Int.reduceEq, Nat.reduceEqDiff, e0]) (by simp only [simq, Int.reduceEq, Nat.reduceEqDiff, e9]) (by simp only [simq, Int.reduceEq, Nat.reduceEqDiff, e4]) (by simp only [simq, Int.reduceEq, Nat.reduceEqDiff, h11]) (by simp only [simq, Int.reduceEq, Nat.reduceEqDiff, h10])))))
      rw [decide_eq_false z0] at w0
      by_cases z4 : (kd X).1 = 4
      · rw [decide_eq_true z4] at w4
        rw [if_pos (by rw [z4]; rfl)] at hb
        exact W_seq (W_region (by simp only [simq, Int.reduceEq, Nat.reduceEqDiff, e4, w0, w4]; rfl) (W_then (by simp only [simq, Int.reduceEq, Nat.reduceEqDiff]) (W_skip (go hb (by simp only [simq, Int.reduceEq, Nat.reduceEqDiff, e0]) (by simp only [simq, Int.reduceEq, Nat.reduceEqDiff, e9]) (by simp only [simq, Int.reduceEq, Nat.reduceEqDiff, e4]) (by simp only [simq, Int.reduceEq, Nat.reduceEqDiff, h11]) (by simp only [simq, Int.reduceEq, Nat.reduceEqDiff, h10])))))
      rw [decide_eq_false z4] at w4
      rw [if_neg (by simp [z0, z4])] at hb
      refine W_seq (W_region (by simp only [simq, Int.reduceEq, Nat.reduceEqDiff, e4, w0, w4]; rfl) (W_else (by simp only [simq, Int.reduceEq, Nat.reduceEqDiff]) ?_))
      by_cases z5 : (kd X).1 = 5
      · rw [decide_eq_true z5] at w5
        rw [if_pos (by rw [z5]; rfl)] at hb
        exact W_seq (W_region (by simp only [simq, Int.reduceEq, Nat.reduceEqDiff, w5]; rfl) (W_then (by simp only [simq, Int.reduceEq, Nat.reduceEqDiff]) (W_region (by simp only [simq, Int.reduceEq, Nat.reduceEqDiff]; rfl) (go hb (by simp only [simq, Int.reduceEq, Nat.reduceEqDiff, e0]) (by simp only [simq, Int.reduceEq, Nat.reduceEqDiff, e9]) (by simp only [simq, Int.reduceEq, Nat.reduceEqDiff]) (by simp only [simq, Int.reduceEq, Nat.reduceEqDiff, h11]) (by simp only [simq, Int.reduceEq, Nat.reduceEqDiff, h10])))))
      rw [decide_eq_false z5] at w5
      rw [if_neg (by simp [z5])] at hb
      refine W_seq (W_region (by simp only [simq, Int.reduceEq, Nat.reduceEqDiff, w5]; rfl) (W_else (by simp only [simq, Int.reduceEq, Nat.reduceEqDiff]) ?_))
      cases z7 : decide ((kd X).1 = 7) with
      | true =>
        rw [z7] at w7
        have z7' := of_decide_eq_true z7
        refine W_seq (W_region (by simp only [simq, Int.reduceEq, Nat.reduceEqDiff, w7]; rfl) (W_ret ⟨rfl, _, res_tmp (res_tmp res_nil), L2, ?_⟩))
        rw [hb, z7']
        simp only [simq, Int.reduceEq, Nat.reduceEqDiff, tupled]; simp [bodyN, bodyO]
      | false =>
        rw [z7] at w7
        have z7' := of_decide_eq_false z7
        cases z8 : decide ((kd X).1 = 8) with
        | true =>
          rw [z8] at w8
          have z8' := of_decide_eq_true z8
          refine W_seq (W_region (by simp only [simq, Int.reduceEq, Nat.reduceEqDiff, w7, w8]; rfl) (W_ret ⟨rfl, _, res_tmp (res_tmp res_nil), L2, ?_⟩))
          rw [hb, z8']
          simp only [simq, Int.reduceEq, Nat.reduceEqDiff, tupled]; simp [bodyN, bodyO]
        | false =>
          rw [z8] at w8
          have z8' := of_decide_eq_false z8
          refine W_seq (W_region (by simp only [simq, Int.reduceEq, Nat.reduceEqDiff, w7, w8]; rfl) (W_ret ⟨rfl, _, res_tmp (res_tmp res_nil), L2, ?_⟩))
          rw [hb]
          simp only [simq, Int.reduceEq, Nat.reduceEqDiff, tupled]; simp [bodyN, bodyO, z7', z8']
  · rintro fr t ⟨L, e0, e9, b, e4, hb⟩
    show W E _ _ _ _
    rw [List.drop_length, bodyP] at hb
    refine W_seq (W_region (by simp only [simq, Int.reduceEq, Nat.reduceEqDiff, e0, e4]; rfl) (W_ret ⟨rfl, _, res_tmp (res_tmp res_nil), L, ?_⟩))
    rw [hb]
    simp only [simq, Int.reduceEq, Nat.reduceEqDiff, tupled]; simp [bodyN, bodyO]
theorem parse1_run (hC : Codes E) (P : Prims E) (hf : Has E f Code.page_parse_1) (G : Gl s) {x : Ln} (hx : x.length ≤ 100000) : Cv E f [strOf x] s fun r t => r = .bool (!((kd x).1 == 0)) ∧ Low s.next s t := by
  refine Cv_of hf.code ?_
  have h0 : (Tr.ofList (.e : Fr) 0 [strOf x]).get 0 = some (strOf x) := rfl
  generalize (Tr.ofList (.e : Fr) 0 [strOf x]) = fr0 at h0
  unfold Code.page_parse_1
  refine W_seq (W_region (by simp only [simq, Int.reduceEq, Nat.reduceEqDiff]; rfl) ?_)
  refine W_seq (W_opsM (Wo_run (by simp only [simq, Int.reduceEq, Nat.reduceEqDiff, h0]; rfl) (Wo_call hC.page_comment.prim (args := [strOf x]) (by simp only [simq, Int.reduceEq, Nat.reduceEqDiff]; try rfl) ((comment_run hC P hC.page_comment G x hx).mono ?_))))
  rintro _ t2 ⟨rfl, l2⟩
  refine Wo_all (by simp only [simq, Int.reduceEq, Nat.reduceEqDiff, nth0, nth1]; rfl) ?_
  show W E _ _ _ _
  have w0 := word_plain x
  cases z : decide ((kd x).1 = 0) with
  | true =>
    rw [z] at w0
    refine W_seq (W_region (by simp only [simq, Int.reduceEq, Nat.reduceEqDiff, w0]; rfl) (W_ret ⟨rfl, _, res_tmp res_nil, ?_, l2⟩))
    simp only [simq, Int.reduceEq, Nat.reduceEqDiff, tupled]; simp [of_decide_eq_true z]
  | false =>
    rw [z] at w0
    refine W_seq (W_region (by simp only [simq, Int.reduceEq, Nat.reduceEqDiff, w0]; rfl) (W_ret ⟨rfl, _, res_tmp res_nil, ?_, l2⟩))
    simp only [simq, Int.reduceEq, Nat.reduceEqDiff, tupled]; simp [of_decide_eq_false z]
end
end
end Go.Ev
