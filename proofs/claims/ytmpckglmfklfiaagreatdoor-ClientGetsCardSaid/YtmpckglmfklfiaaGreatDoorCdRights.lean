/-
  Rights as bytes, the program's side: Valid, PutRights, GetRights.
-/
import Derived.Test.YtmpckglmfklfiaaGreatDoorCdCat
set_option linter.unusedVariables false
set_option linter.unusedSimpArgs false
namespace Go.Ev
noncomputable section
def rightsC (o g fo fg fa : Int) (b : Bool) : List Value := [.int .i64 o, .int .i64 g, .int .i64 fo, .int .i64 fg, .int .i64 fa, .bool b]
def validR (o g fo fg fa : Int) : Prop := 0 ≤ o ∧ 0 ≤ g ∧ (0 ≤ fo ∧ fo ≤ 7) ∧ (0 ≤ fg ∧ fg ≤ 7) ∧ (0 ≤ fa ∧ fa ≤ 7)
instance (o g fo fg fa : Int) : Decidable (validR o g fo fg fa) := by unfold validR; infer_instance
section
variable {E : Env} {f : FuncId} {s : St} {o g fo fg fa : Int} {b : Bool}
theorem Valid_run (hC : Codes E) (hf : Has E f Code.rights_Valid) : Cv E f [.agg ⟨rightsC o g fo fg fa b⟩] s fun v s' => v = .bool (decide (validR o g fo fg fa)) ∧ Low s.next s s' := by
  refine Cv_of hf.code ?_
  have h0 : (Tr.ofList (.e : Fr) 0 [.agg ⟨rightsC o g fo fg fa b⟩]).get 0 = some (.agg ⟨rightsC o g fo fg fa b⟩) := rfl
  generalize (Tr.ofList (.e : Fr) 0 [.agg ⟨rightsC o g fo fg fa b⟩]) = fr0 at h0
  have hv : vcells (.agg ⟨rightsC o g fo fg fa b⟩) = rightsC o g fo fg fa b := rfl
  have hs : storable (.agg ⟨rightsC o g fo fg fa b⟩) = true := rfl
  unfold Code.rights_Valid
  refine W_seq (W_region (by simp only [sims, Int.reduceEq, Nat.reduceEqDiff, h0, hv, hs]; rfl) ?_)
  have hlow : Low s.next s ((s.skip 2).set s.next (.cells (rightsC o g fo fg fa b) 0 .ex)) := ((Low.self s).skip 2).set (Nat.le_refl _) _
  have c0 := cell_set (s.skip 2) s.next 0 0 (rightsC o g fo fg fa b) .ex
  have c1 := cell_set (s.skip 2) s.next 1 0 (rightsC o g fo fg fa b) .ex
  have c2 := cell_set (s.skip 2) s.next 2 0 (rightsC o g fo fg fa b) .ex
  have c3 := cell_set (s.skip 2) s.next 3 0 (rightsC o g fo fg fa b) .ex
  have c4 := cell_set (s.skip 2) s.next 4 0 (rightsC o g fo fg fa b) .ex
  generalize (s.skip 2).set s.next (.cells (rightsC o g fo fg fa b) 0 .ex) = s1 at hlow c0 c1 c2 c3 c4
  have c0 : s1.cell ⟨s.next, 0, none⟩ = some (.int .i64 o) := c0
  have c1 : s1.cell ⟨s.next, 1, none⟩ = some (.int .i64 g) := c1
  have c2 : s1.cell ⟨s.next, 2, none⟩ = some (.int .i64 fo) := c2
  have c3 : s1.cell ⟨s.next, 3, none⟩ = some (.int .i64 fg) := c3
  have c4 : s1.cell ⟨s.next, 4, none⟩ = some (.int .i64 fa) := c4
  have fin : ∀ (fr : Fr) (q : Bool), fr.get 2 = some (.bool q) → q = decide (validR o g fo fg fa) →
      W E .ret fr s1 fun e fr s' => isExit e = false ∧ ∃ l, optL (oneRes fr s') [.tmp 2] = some l ∧ tupled l = .bool (decide (validR o g fo fg fa)) ∧ Low s.next s s' := by
    intro fr q h1 h2
    exact W_ret ⟨rfl, _, res_tmp res_nil, by rw [h1, ← h2]; rfl, hlow⟩
  refine W_seq (W_opsM ?_)
  cases e1 : decide ((0 : Int) ≤ o) with
  | false =>
    rw [decide_eq_false_iff_not] at e1
    refine Wo_run (by simp only [sims, Int.reduceEq, Nat.reduceEqDiff, c0, c1, c2, decide_eq_false e1]; rfl) (Wo_gf (by simp only [sims, Int.reduceEq, Nat.reduceEqDiff]) (Wo_run (by simp only [sims, Int.reduceEq, Nat.reduceEqDiff]; rfl) (Wo_gf (by simp only [sims, Int.reduceEq, Nat.reduceEqDiff]) (Wo_run (by simp only [sims, Int.reduceEq, Nat.reduceEqDiff]; rfl) (Wo_gf (by simp only [sims, Int.reduceEq, Nat.reduceEqDiff]) (Wo_all (by simp only [sims, Int.reduceEq, Nat.reduceEqDiff]; rfl) (fin _ false (by simp only [sims, Int.reduceEq, Nat.reduceEqDiff]) (by symm; rw [decide_eq_false_iff_not]; unfold validR; omega))))))))
  | true =>
  rw [decide_eq_true_eq] at e1
  cases e2 : decide ((0 : Int) ≤ g) with
  | false =>
    rw [decide_eq_false_iff_not] at e2
    refine Wo_run (by simp only [sims, Int.reduceEq, Nat.reduceEqDiff, c0, c1, c2, decide_eq_true e1, decide_eq_false e2]; rfl) (Wo_gf (by simp only [sims, Int.reduceEq, Nat.reduceEqDiff]) (Wo_run (by simp only [sims, Int.reduceEq, Nat.reduceEqDiff]; rfl) (Wo_gf (by simp only [sims, Int.reduceEq, Nat.reduceEqDiff]) (Wo_run (by simp only [sims, Int.reduceEq, Nat.reduceEqDiff]; rfl) (Wo_gf (by simp only [sims, Int.reduceEq, Nat.reduceEqDiff]) (Wo_all (by simp only [sims, Int.reduceEq, Nat.reduceEqDiff]; rfl) (fin _ false (by simp only [sims, Int.reduceEq, Nat.reduceEqDiff]) (by symm; rw [decide_eq_false_iff_not]; unfold validR; omega))))))))
  | true =>
  rw [decide_eq_true_eq] at e2
  refine Wo_run (by simp only [sims, Int.reduceEq, Nat.reduceEqDiff, c0, c1, c2, decide_eq_true e1, decide_eq_true e2]; rfl) (Wo_gt (by simp only [sims, Int.reduceEq, Nat.reduceEqDiff]) (Wo_call hC.rights_within.prim (by simp only [sims, Int.reduceEq, Nat.reduceEqDiff]; rfl) ((within_run hC.rights_within _ _ _).mono ?_)))
  rintro _ _ ⟨rfl, hs1⟩
  rw [hs1]; clear hs1
  cases e3 : decide ((0 : Int) ≤ fo ∧ fo ≤ 7) with
  | false =>
    rw [decide_eq_false_iff_not] at e3
    refine Wo_run (by simp only [sims, Int.reduceEq, Nat.reduceEqDiff]; rfl) (Wo_gf (by simp only [sims, Int.reduceEq, Nat.reduceEqDiff]) (Wo_run (by simp only [sims, Int.reduceEq, Nat.reduceEqDiff]; rfl) (Wo_gf (by simp only [sims, Int.reduceEq, Nat.reduceEqDiff]) (Wo_all (by simp only [sims, Int.reduceEq, Nat.reduceEqDiff]; rfl) (fin _ false (by simp only [sims, Int.reduceEq, Nat.reduceEqDiff]) (by symm; rw [decide_eq_false_iff_not]; unfold validR; omega))))))
  | true =>
  rw [decide_eq_true_eq] at e3
  refine Wo_run (by simp only [sims, Int.reduceEq, Nat.reduceEqDiff, c3]; rfl) (Wo_gt (by simp only [sims, Int.reduceEq, Nat.reduceEqDiff]) (Wo_call hC.rights_within.prim (by simp only [sims, Int.reduceEq, Nat.reduceEqDiff]; rfl) ((within_run hC.rights_within _ _ _).mono ?_)))
  rintro _ _ ⟨rfl, hs1⟩
  rw [hs1]; clear hs1
  cases e4 : decide ((0 : Int) ≤ fg ∧ fg ≤ 7) with
  | false =>
    rw [decide_eq_false_iff_not] at e4
    refine Wo_run (by simp only [sims, Int.reduceEq, Nat.reduceEqDiff]; rfl) (Wo_gf (by simp only [sims, Int.reduceEq, Nat.reduceEqDiff]) (Wo_all (by simp only [sims, Int.reduceEq, Nat.reduceEqDiff]; rfl) (fin _ false (by simp only [sims, Int.reduceEq, Nat.reduceEqDiff]) (by symm; rw [decide_eq_false_iff_not]; unfold validR; omega))))
  | true =>
  rw [decide_eq_true_eq] at e4
  refine Wo_run (by simp only [sims, Int.reduceEq, Nat.reduceEqDiff, c4]; rfl) (Wo_gt (by simp only [sims, Int.reduceEq, Nat.reduceEqDiff]) (Wo_call hC.rights_within.prim (by simp only [sims, Int.reduceEq, Nat.reduceEqDiff]; rfl) ((within_run hC.rights_within _ _ _).mono ?_)))
  rintro _ _ ⟨rfl, hs1⟩
  rw [hs1]; clear hs1
  refine Wo_all (by simp only [sims, Int.reduceEq, Nat.reduceEqDiff]; rfl) (fin _ (decide ((0 : Int) ≤ fa ∧ fa ≤ 7)) (by simp only [sims, Int.reduceEq, Nat.reduceEqDiff]) ?_)
  rw [decide_eq_decide]
  unfold validR
  omega
def okR (o g fo fg fa : Int) : Prop := validR o g fo fg fa ∧ o < 4294967296 ∧ g < 4294967296
instance (o g fo fg fa : Int) : Decidable (okR o g fo fg fa) := by unfold okR; infer_instance
def bytesR (o g fo fg fa : Int) (b : Bool) : List UInt8 := beB 4 o.toNat ++ (beB 4 g.toNat ++ [UInt8.ofNat fo.toNat, UInt8.ofNat fg.toNat, UInt8.ofNat fa.toNat, if b then 1 else 0])
end
end
end Go.Ev
