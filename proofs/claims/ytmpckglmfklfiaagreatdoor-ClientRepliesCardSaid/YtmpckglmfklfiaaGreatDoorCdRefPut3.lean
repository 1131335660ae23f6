/-
  The bytes of a reply, the document's side.
-/
import Derived.Test.YtmpckglmfklfiaaGreatDoorCdRefPut2
set_option linter.unusedVariables false
set_option linter.unusedSimpArgs false
namespace Go.Ev
noncomputable section
section
variable {E : Env} {f : FuncId} {s t : St} {L a c0 : Nat} {b : List UInt8} {q : Bool} {v w u : Value} {l : List UInt8} {its : List ItemC}
def ItemC.sick (i : ItemC) : Bool := ((decide (i.id < 0) || decide (4294967296 ≤ i.id)) || (decide (i.parent < 0) || decide (4294967296 ≤ i.parent))) || decide ((31 : Int) < (i.name.length : Nat))
theorem sick_iff (i : ItemC) : i.sick = false ↔ i.ok := by
  unfold ItemC.sick ItemC.ok
  simp only [Bool.or_eq_false_iff, decide_eq_false_iff_not]
  omega
theorem add_two (x : Addr) (i j : Nat) : (x.add i).add j = x.add (i + j) := by
  unfold Addr.add
  by_cases hi : i = 0 <;> by_cases hj : j = 0 <;> simp [hi, hj, Nat.add_assoc]
structure PrL (s0 : St) (L a c0 : Nat) (cs : List Value) (pre : List UInt8) (q0 : Bool) (its : List ItemC) (i : Nat) (fr : Fr) (s : St) : Prop where
  le : i ≤ its.length
  f1 : fr.get 1 = some (ptr c0 0)
  f4 : fr.get 4 = some (ptr a 0)
  f5 : fr.get 5 = some (.int .i64 (i : Nat))
  bl : Bl L a s0 s
  w : ∃ v m, m.length ≤ 100 * i ∧ ((∀ x ∈ its.take i, x.ok) → m = ((its.take i).map ItemC.bytes).flatten) ∧ Wt s L a (pre ++ m) (q0 || (its.take i).any ItemC.sick) v
theorem refput_loop (hC : Codes E) {s0 : St} {cs : List Value} {pre : List UInt8} {q0 : Bool} (hits : its.length ≤ 60) (hpre : pre.length ≤ 5000) (hname : ∀ i ∈ its, i.name.length ≤ 60) (hc : Row s0 c0 cs) (hcL : c0 < L) (hca : c0 ≠ a) (h4 : cs[4]? = some u) (hu : Sl s0 c0 4 u (itemsC its)) (hcu : c0 ≤ a) {Q : Ex → Fr → St → Prop}
    (hq : ∀ fr t, PrL s0 L a c0 cs pre q0 its its.length fr t → Q (.exit 0) fr t) : ∀ (k : Nat) (fr : Fr) (t : St), (∃ i, k = its.length - i ∧ PrL s0 L a c0 cs pre q0 its i fr t) → W E (.loop Code.tithingref26_PutReply_l0) fr t Q := by
  refine W_inv _ ?_
  rintro k fr t ⟨i, rfl, I⟩
  have g1 := I.f1
  have g4 := I.f4
  have g5 := I.f5
  have A := hc.bl I.bl hcL hca
  have U := hu.bl I.bl (Nat.le_of_lt hcL) hcu
  obtain ⟨p, n, kk, rfl, hn⟩ := hu.parts
  have hnl : n = its.length := by rw [itemsC_length] at hn; omega
  subst hnl
  have d4 : t.cell ⟨c0, 4, none⟩ = some (.slice p its.length kk) := (A.cell 4).trans h4
  unfold Code.tithingref26_PutReply_l0
  by_cases hlt : i < its.length
  case neg =>
    have hi : i = its.length := by have := I.le; omega
    have d : decide (((i : Nat) : Int) < ((its.length : Nat) : Int)) = false := by simp; omega
    refine W_seq (W_seq (W_region (by simp only [sims, Int.reduceEq, Nat.reduceEqDiff, g5, g1, d4, d, Int.ofNat_eq_natCast]; rfl) (W_else (by simp only [sims, Int.reduceEq, Nat.reduceEqDiff]) (W_exit ?_))))
    subst hi
    exact hq _ _ { I with f1 := by simp only [sims, Int.reduceEq, Nat.reduceEqDiff, g1], f4 := by simp only [sims, Int.reduceEq, Nat.reduceEqDiff, g4], f5 := by simp only [sims, Int.reduceEq, Nat.reduceEqDiff, g5] }
  have d : decide (((i : Nat) : Int) < ((its.length : Nat) : Int)) = true := by simp; omega
  refine W_seq (W_seq (W_region (by simp only [sims, Int.reduceEq, Nat.reduceEqDiff, g5, g1, d4, d, Int.ofNat_eq_natCast]; rfl) (W_then (by simp only [sims, Int.reduceEq, Nat.reduceEqDiff]) (W_skip ?_))))
  obtain ⟨v, m, hm, hmo, W0⟩ := I.w
  have hbl : Nat.blt i its.length = true := by rw [Nat.blt_eq]; exact hlt
  have hmem : its[i] ∈ its := List.getElem_mem hlt
  have hcells := itemsC_get hlt
  generalize hX : its[i] = X at hmem hcells
  have hnm := hname X hmem
  have cellX : ∀ (t' : St), Sl t' c0 4 (.slice p its.length kk) (itemsC its) → ∀ j x, j < 4 → X.cells[j]? = some x → ∃ a', p = some a' ∧ t'.cell (a'.add (i * 4 + j)) = some x := by
    intro t' U' j x hj hx
    obtain ⟨a', e, hcell⟩ := U'.cell (i := i * 4 + j) (by rw [itemsC_length]; omega)
    refine ⟨a', e, ?_⟩
    rw [hcell, ← hx, ← hcells, List.getElem?_take_of_lt hj, List.getElem?_drop]
  obtain ⟨a', rfl, e0⟩ := cellX t U 0 _ (by decide) rfl
  have x0 : t.cell ((a'.add (i * 4)).add 0) = some (.int .i64 X.id) := by rw [add_two]; exact e0
  refine W_seq (W_block (W_seq (W_opsM (Wo_run (by simp only [sims, Int.reduceEq, Nat.reduceEqDiff, g1, g4, g5, d4, hbl, x0]; rfl) (Wo_call hC._tithing_tithingref26_writer_plain.prim (args := [ptr a 0, .int .i64 X.id]) (by simp only [sims, Int.reduceEq, Nat.reduceEqDiff, g4]) ((writer_plain_run hC._tithing_tithingref26_writer_plain W0 X.id (by simp; omega)).mono ?_))))))
  rintro _ t1 ⟨B1, v1, m1, hm1, ho1, W1⟩
  refine Wo_nil ?_
  show W E _ _ t1 _
  have C1 := I.bl.trans B1
  have A1 := hc.bl C1 hcL hca
  have U1 := hu.bl C1 (Nat.le_of_lt hcL) hcu
  have d4 : t1.cell ⟨c0, 4, none⟩ = some (.slice (some a') its.length kk) := (A1.cell 4).trans h4
  obtain ⟨_, e, e1⟩ := cellX t1 U1 1 _ (by decide) rfl
  cases e
  have x1 : t1.cell ((a'.add (i * 4)).add 1) = some (.int .i64 X.parent) := by rw [add_two]; exact e1
  first | refine W_seq (W_opsM (Wo_run (by simp only [sims, Int.reduceEq, Nat.reduceEqDiff, g1, g4, g5, d4, hbl, x1]; rfl) (Wo_call hC._tithing_tithingref26_writer_plain.prim (by simp only [sims, Int.reduceEq, Nat.reduceEqDiff, g1, g4, g5, d4, hbl, x1]; try rfl) ((writer_plain_run hC._tithing_tithingref26_writer_plain W1 X.parent (by simp; omega)).mono ?_)))) | refine W_seq (W_ops (Wo_run (by simp only [sims, Int.reduceEq, Nat.reduceEqDiff, g1, g4, g5, d4, hbl, x1]; rfl) (Wo_call hC._tithing_tithingref26_writer_plain.prim (by simp only [sims, Int.reduceEq, Nat.reduceEqDiff, g1, g4, g5, d4, hbl, x1]; try rfl) ((writer_plain_run hC._tithing_tithingref26_writer_plain W1 X.parent (by simp; omega)).mono ?_))))
  rintro _ t2 ⟨B2, v2, m2, hm2, ho2, W2⟩
  refine Wo_nil ?_
  show W E _ _ t2 _
  have C2 := C1.trans B2
  have A2 := hc.bl C2 hcL hca
  have U2 := hu.bl C2 (Nat.le_of_lt hcL) hcu
  have d4 : t2.cell ⟨c0, 4, none⟩ = some (.slice (some a') its.length kk) := (A2.cell 4).trans h4
  obtain ⟨_, e, e3⟩ := cellX t2 U2 3 _ (by decide) rfl
  cases e
  have x3 : t2.cell ((a'.add (i * 4)).add 3) = some (.bool X.dir) := by rw [add_two]; exact e3
  refine W_seq (W_region (by simp only [sims, Int.reduceEq, Nat.reduceEqDiff]; rfl) ?_)
  refine W_seq (W_seq (W_region (by simp only [sims, Int.reduceEq, Nat.reduceEqDiff, g1, g5, d4, hbl, x3]; rfl) ?_))
  refine W.cut (P := fun e fr' s' => e = .normal ∧ s' = t2 ∧ fr'.get 6 = some (ofByte (dirB X.dir))) ?_ rfl ?_
  · refine W_ifb (q := X.dir) (by simp only [sims, Int.reduceEq, Nat.reduceEqDiff]) (fun h => W_region (by simp only [sims, Int.reduceEq, Nat.reduceEqDiff]; rfl) ⟨rfl, rfl, ?_⟩) (fun h => W_skip ⟨rfl, rfl, ?_⟩)
    · simp only [sims, Int.reduceEq, Nat.reduceEqDiff, h]; rfl
    · simp only [sims, Int.reduceEq, Nat.reduceEqDiff, h]; rfl
  rintro _ fr5 s5 ⟨rfl, hs5, n6⟩ hk
  rw [hs5]; clear hs5 s5
  have n1 := hk 1 (by decide)
  have n4 := hk 4 (by decide)
  have n5 := hk 5 (by decide)
  simp only [sims, Int.reduceEq, Nat.reduceEqDiff, g1, g4, g5] at n1 n4 n5
  clear hk
  show W E _ fr5 t2 _
  have dv : t2.cell ⟨a, 0, none⟩ = some v2 := W2.row.cell 0
  refine W_seq (W_ops (Wo_run (l := [_, _, _, _, _, _]) (by simp only [sims, Int.reduceEq, Nat.reduceEqDiff, n4, n6, dv, nilOk_ptr]; rfl) ?_))
  refine Wo_buildSlice (size := 1) (lo := t2.next) (cs := [dirB X.dir].map ofByte) (by simp only [sims, Int.reduceEq, Nat.reduceEqDiff]; rfl) rfl (Nat.le_add_right _ _) (by rw [next_skip]; omega) (by decide) ?_
  rintro t3 ⟨D3, -⟩ l3 hs3
  have l23 : Low t2.next t2 t3 := ((Low.self t2).skip 11).trans l3
  have W3 := W2.low l23
  obtain ⟨v4, t4, t5, e4, p4, W5, B5, y4, z4⟩ := W3.app D3.feed (by simp; omega) 5
  refine Wo_all (by simp only [sims, Int.reduceEq, Nat.reduceEqDiff, n4, nilOk_ptr, e4, p4, y4.1, y4.2, z4]; rfl) ?_
  show W E _ _ t5 _
  have C5 := C2.trans (((l23.weak W2.le).bl).trans B5)
  have A5 := hc.bl C5 hcL hca
  have U5 := hu.bl C5 (Nat.le_of_lt hcL) hcu
  have d4 : t5.cell ⟨c0, 4, none⟩ = some (.slice (some a') its.length kk) := (A5.cell 4).trans h4
  obtain ⟨_, e, e2⟩ := cellX t5 U5 2 _ (by decide) rfl
  cases e
  have x2 : t5.cell ((a'.add (i * 4)).add 2) = some (strOf X.name) := by rw [add_two]; exact e2
  first | refine W_opsM (Wo_run (by simp only [sims, Int.reduceEq, Nat.reduceEqDiff, n1, n4, n5, d4, hbl, x2]; rfl) (Wo_call hC._tithing_tithingref26_writer_text.prim (by simp only [sims, Int.reduceEq, Nat.reduceEqDiff, n1, n4, n5, d4, hbl, x2]; try rfl) ((writer_text_run hC._tithing_tithingref26_writer_text W5 X.name (by simp; omega)).mono ?_))) | refine W_ops (Wo_run (by simp only [sims, Int.reduceEq, Nat.reduceEqDiff, n1, n4, n5, d4, hbl, x2]; rfl) (Wo_call hC._tithing_tithingref26_writer_text.prim (by simp only [sims, Int.reduceEq, Nat.reduceEqDiff, n1, n4, n5, d4, hbl, x2]; try rfl) ((writer_text_run hC._tithing_tithingref26_writer_text W5 X.name (by simp; omega)).mono ?_)))
  rintro _ t6 ⟨B6, v6, W6⟩
  refine Wo_nil ?_
  show W E _ _ t6 _
  have e1 : wr .i64 (((i : Nat) : Int) + 1) = ((i + 1 : Nat) : Int) := by rw [wr_i64 (by omega) (by omega)]; omega
  refine W_region (by simp only [sims, Int.reduceEq, Nat.reduceEqDiff, n5, e1]; rfl) ?_
  have ht : its.take (i + 1) = its.take i ++ [X] := by rw [List.take_succ_eq_append_getElem hlt, hX]
  refine ⟨its.length - (i + 1), by omega, i + 1, rfl, { le := by omega, f1 := by simp only [sims, Int.reduceEq, Nat.reduceEqDiff, n1], f4 := by simp only [sims, Int.reduceEq, Nat.reduceEqDiff, n4], f5 := by simp only [sims, Int.reduceEq, Nat.reduceEqDiff], bl := C5.trans B6, w := ⟨v6, m ++ m1 ++ m2 ++ [dirB X.dir] ++ countB X.name, ?_, ?_, ?_⟩ }⟩
  · simp [countB]; omega
  · intro hall
    rw [ht] at hall ⊢
    have hX' : X.ok := hall X (by simp)
    have h0 := hmo fun x hx => hall x (List.mem_append_left _ hx)
    rw [h0, ho1 hX'.1.1 hX'.1.2, ho2 hX'.2.1.1 hX'.2.1.2, List.map_append, List.flatten_append]
    simp [ItemC.bytes]
  · have eb : pre ++ (m ++ m1 ++ m2 ++ [dirB X.dir] ++ countB X.name) = pre ++ m ++ m1 ++ m2 ++ [dirB X.dir] ++ countB X.name := by simp
    have eq : (q0 || (its.take (i + 1)).any ItemC.sick) = ((((q0 || (its.take i).any ItemC.sick) || (decide (X.id < 0) || decide (4294967296 ≤ X.id))) || (decide (X.parent < 0) || decide (4294967296 ≤ X.parent))) || decide ((31 : Int) < (X.name.length : Nat))) := by
      rw [ht, List.any_append]
      simp only [List.any_cons, List.any_nil, Bool.or_false, ItemC.sick]
      ac_rfl
    rw [eb, eq]
    exact W6
end
end
end Go.Ev
