/-
  The bytes of a call, on both sides.
-/
import Derived.Test.YtmpckglmfklfiaaGreatDoorCdRefPut
import Derived.Test.YtmpckglmfklfiaaGreatDoorCdGets
set_option linter.unusedVariables false
set_option linter.unusedSimpArgs false
namespace Go.Ev
noncomputable section
section
variable {E : Env} {f : FuncId} {s : St} {w : Value} {l : List UInt8}
def putM (c : CallC) (l : List UInt8) : List UInt8 := if c.ok l then c.bytes l else []
def putX (c : CallC) (l : List UInt8) : Int := if c.ok l then 0 else 2
theorem long_false {c : CallC} (h : c.long l = false) : c.do_.length ≤ 60 ∧ c.name.length ≤ 60 ∧ c.to.length ≤ 60 ∧ l.length ≤ 500 := by
  unfold CallC.long at h
  simp only [Bool.or_eq_false_iff, decide_eq_false_iff_not] at h
  omega
theorem PutCall_one (hC : Codes E) (hf : Has E f Code.client_PutCall) {c : CallC} (hw : Sl s s.next 1 w (l.map ofByte)) (hl : c.long l = false) : Cv E f [.agg ⟨c.cells w⟩] s fun r s' => Low s.next s s' ∧ ∃ x, r = .tuple ⟨[x, .int .i64 (putX c l)]⟩ ∧ Sl s' s'.next 1 x ((putM c l).map ofByte) := by
  obtain ⟨p, n, k, rfl, hn⟩ := hw.parts
  obtain ⟨h1, h2, h3, h4⟩ := long_false hl
  refine (PutCall_run hC hf (Nat.le_refl _) hw (by unfold room; omega)).mono ?_
  rintro r s' (⟨h, x, rfl, g1, g2⟩ | ⟨h, rfl, g2⟩)
  · exact ⟨g2, x, by unfold putX; rw [if_pos h], by unfold putM; rw [if_pos h]; exact g1.sl⟩
  · exact ⟨g2, _, by unfold putX; rw [if_neg h], by unfold putM; rw [if_neg h]; exact .nil⟩
theorem refPutCall_one (hC : Codes E) (hf : Has E f Code.tithingref26_PutCall) {c : CallC} (hw : Sl s s.next 1 w (l.map ofByte)) (hl : c.long l = false) : Cv E f [.agg ⟨c.cells w⟩] s fun r s' => Low s.next s s' ∧ ∃ x, r = .tuple ⟨[x, .int .i64 (putX c l)]⟩ ∧ Sl s' s'.next 1 x ((putM c l).map ofByte) := by
  obtain ⟨h1, h2, h3, h4⟩ := long_false hl
  refine (refPutCall_run hC hf hw h1 h2 h3 h4).mono ?_
  rintro r s' ⟨g2, ⟨h, x, rfl, g1⟩ | ⟨h, rfl⟩⟩
  · exact ⟨g2, x, by unfold putX; rw [if_pos h], by unfold putM; rw [if_pos h]; exact g1.sl⟩
  · exact ⟨g2, _, by unfold putX; rw [if_neg h], by unfold putM; rw [if_neg h]; exact .nil⟩
theorem ClientCalls_run (hC : Codes E) (hf : Has E f Code.tithinglaw26_ClientCalls) (hF : E.prim 9 = some pTrue) {c : CallC} (hw : Sl s s.next 1 w (l.map ofByte)) : Cv E f [.agg ⟨c.cells w⟩] s fun r s' => r = .bool true := by
  have hp : ∀ t : St, pTrue [] t = some (.bool true, t) := fun _ => rfl
  have nth0 : ∀ (x y : Value), nthL [x, y] 0 = some x := fun _ _ => rfl
  have nth1 : ∀ (x y : Value), nthL [x, y] 1 = some y := fun _ _ => rfl
  have hvc : vcells (.agg ⟨c.cells w⟩) = c.cells w := rfl
  refine Cv_of hf.code ?_
  have h0 : (Tr.ofList (.e : Fr) 0 [.agg ⟨c.cells w⟩]).get 0 = some (.agg ⟨c.cells w⟩) := rfl
  generalize (Tr.ofList (.e : Fr) 0 [.agg ⟨c.cells w⟩]) = fr0 at h0
  unfold Code.tithinglaw26_ClientCalls
  refine W_seq (W_ops (Wo_box (lo := s.next) (s0 := s) (z := c.cells w) (by simp only [sims, Int.reduceEq, Nat.reduceEqDiff, h0]; rfl) rfl rfl ((Low.self s).skip 2) (Nat.le_add_right _ _) (by rw [next_skip]; omega) fun s1 B1 n1 _ => Wo_all (by simp only [sims, Int.reduceEq, Nat.reduceEqDiff]; rfl) ?_))
  rw [Nat.add_zero] at B1
  have w1 := (hw.low B1.low (Nat.le_refl _)).wide B1.low.2.1
  have r1 : s1.row ⟨s.next, 0, none⟩ 19 = some (c.cells w) := B1.row rfl
  refine W_seq (W_seq (W_opsM (Wo_run (by simp only [sims, Int.reduceEq, Nat.reduceEqDiff, r1]; rfl) (Wo_call hC.tithinglaw26_LongCall.prim (args := [.agg ⟨c.cells w⟩]) (by simp only [sims, Int.reduceEq, Nat.reduceEqDiff]) ((LongCall_run hC.tithinglaw26_LongCall c w1).mono ?_)))))
  rintro _ s2 ⟨rfl, l2⟩
  refine Wo_nil ?_
  show W E _ _ s2 _
  cases hl : c.long l with
  | true =>
    refine W_then (by simp only [sims, Int.reduceEq, Nat.reduceEqDiff]) ?_
    refine W_seq (W_opsM (Wo_all (by simp only [sims, Int.reduceEq, Nat.reduceEqDiff, pc_some hF, hp]; rfl) ?_))
    exact W_ret ⟨rfl, _, res_tmp res_nil, by simp only [sims, Int.reduceEq, Nat.reduceEqDiff, tupled]⟩
  | false =>
  refine W_else (by simp only [sims, Int.reduceEq, Nat.reduceEqDiff]) (W_skip ?_)
  have B2 := B1.go l2
  have w2 := (w1.low l2 (Nat.le_refl _)).wide l2.2.1
  have r2 : s2.row ⟨s.next, 0, none⟩ 19 = some (c.cells w) := B2.row rfl
  refine W_seq (W_opsM (Wo_run (by simp only [sims, Int.reduceEq, Nat.reduceEqDiff, r2]; rfl) (Wo_call hC.client_PutCall.prim (args := [.agg ⟨c.cells w⟩]) (by simp only [sims, Int.reduceEq, Nat.reduceEqDiff]) ((PutCall_one hC hC.client_PutCall w2 hl).mono ?_))))
  rintro _ s3 ⟨l3, x, rfl, x3⟩
  refine Wo_all (by simp only [sims, Int.reduceEq, Nat.reduceEqDiff, nth0, nth1]; rfl) ?_
  have B3 := B2.go l3
  have w3 := (w2.low l3 (Nat.le_refl _)).wide l3.2.1
  have r3 : s3.row ⟨s.next, 0, none⟩ 19 = some (c.cells w) := B3.row rfl
  refine W_seq (W_opsM (Wo_run (by simp only [sims, Int.reduceEq, Nat.reduceEqDiff, r3]; rfl) (Wo_call hC.tithingref26_PutCall.prim (args := [.agg ⟨c.cells w⟩]) (by simp only [sims, Int.reduceEq, Nat.reduceEqDiff]) ((refPutCall_one hC hC.tithingref26_PutCall w3 hl).mono ?_))))
  rintro _ s4 ⟨l4, y, rfl, y4⟩
  refine Wo_all (by simp only [sims, Int.reduceEq, Nat.reduceEqDiff, nth0, nth1]; rfl) ?_
  have x4 := x3.low l4 (Nat.le_refl _)
  obtain ⟨px, nx, cx, rfl, hx⟩ := x4.parts
  obtain ⟨py, ny, cy, rfl, hy⟩ := y4.parts
  refine W_seq (W_opsM (Wo_run (by simp only [sims, Int.reduceEq, Nat.reduceEqDiff, x4.elems, y4.elems, optByte_of]; rfl) (Wo_gt (by simp only [sims, Int.reduceEq, Nat.reduceEqDiff]) (Wo_all (by simp only [sims, Int.reduceEq, Nat.reduceEqDiff, pc_some hF, hp]; rfl) ?_))))
  exact W_ret ⟨rfl, _, res_tmp res_nil, by simp only [sims, Int.reduceEq, Nat.reduceEqDiff, tupled]⟩
end
end
end Go.Ev
