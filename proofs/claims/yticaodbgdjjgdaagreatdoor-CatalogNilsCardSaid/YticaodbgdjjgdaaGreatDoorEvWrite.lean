/-
  Operations that write cells.
-/
import Derived.Test.YticaodbgdjjgdaaGreatDoorEvMake2
set_option linter.unusedVariables false
set_option linter.unusedSimpArgs false
namespace Go.Ev
open Go (Sem)
section
variable {P : Program} {ι : Inj} {w : World} {base : Nat} {s : St} {o : Oper} {ρ : Operand → Value}

/-- A world in which one row of cells is another one. -/
structure Wrote (w w' : World) (b : Nat) (cs : Array Value) (T : TypeId) (fr : Nat × Nat) : Prop where
  at_ : w'.heap[b]? = some (.cells cs T fr)
  size : w'.heap.size = w.heap.size
  old : ∀ k, k ≠ b → w'.heap[k]? = w.heap[k]?
  os : w'.os = w.os
  tape : w'.tape = w.tape
  output : w'.output = w.output

theorem setCell_wrote {b o : Nat} {cs : Array Value} {T : TypeId} {fr : Nat × Nat} (h : w.heap[b]? = some (.cells cs T fr)) (v : Value) : Wrote w (w.setCell ⟨b, o, none⟩ v) b (cs.setIfInBounds o v) T fr := by
  refine ⟨?_, by simp [World.setCell], ?_, rfl, rfl, rfl⟩
  · simp only [World.setCell, Array.getElem?_modify, if_pos, h]
    rfl
  · intro k hk
    simp only [World.setCell, Array.getElem?_modify]
    rw [if_neg (fun e => hk e.symm)]
theorem Wrote.trans {w w' w'' : World} {b : Nat} {cs cs' : Array Value} {T T' : TypeId} {fr fr' : Nat × Nat} (h : Wrote w w' b cs T fr) (k : Wrote w' w'' b cs' T' fr') : Wrote w w'' b cs' T' fr' :=
  ⟨k.at_, k.size.trans h.size, fun i hi => (k.old i hi).trans (h.old i hi), k.os.trans h.os, k.tape.trans h.tape, k.output.trans h.output⟩

theorem addr_add (b o i : Nat) : (⟨b, o, none⟩ : Addr).add i = ⟨b, o + i, none⟩ := by
  unfold Addr.add; split
  · subst_vars; rfl
  · rfl

theorem run_storeCells {b : Nat} {T : TypeId} {fr : Nat × Nat} {off : Nat} : ∀ (vs : List Value) (i : Nat) (w : World) (cs : Array Value), w.heap[b]? = some (.cells cs T fr) → off + i + vs.length ≤ cs.size → (∀ v ∈ vs, scal v) →
    (∀ o, off + i ≤ o → o < off + i + vs.length → ¬ (fr.1 ≤ o ∧ o < fr.2)) →
    ∃ w', (storeCells ⟨b, off, none⟩ vs i).run P w = .ok () w' ∧ Wrote w w' b ⟨splice cs.toList (off + i) vs⟩ T fr := by
  intro vs
  induction vs with
  | nil =>
    intro i w cs h hlen _ _
    refine ⟨w, rfl, ?_, rfl, fun _ _ => rfl, rfl, rfl, rfl⟩
    rw [h]
    congr 2
    apply Array.ext'
    rw [splice_eq]; simp
  | cons v vs ih =>
    intro i w cs h hlen hs hf
    simp only [List.length_cons] at hlen hf
    have hcell : w.cell? ⟨b, off + i, none⟩ = some (cs[off + i]'(by omega)) := by
      rw [cell?_of h, Array.getElem?_eq_getElem (by omega)]
    have hfz : w.frozen? ⟨b, off + i, none⟩ = false := by
      have := hf (off + i) (by omega) (by omega)
      simp only [World.frozen?, h]
      rw [Bool.eq_false_iff]; intro hc; apply this; simpa using hc
    have hw := setCell_wrote (o := off + i) h v
    obtain ⟨w', h1, h2⟩ := ih (i + 1) (w.setCell ⟨b, off + i, none⟩ v) (cs.setIfInBounds (off + i) v) hw.at_ (by simp; omega) (fun x hx => hs x (by simp [hx])) (fun o ho1 ho2 => hf o (by omega) (by omega))
    refine ⟨w', ?_, ?_⟩
    · rw [storeCells, Sem.run_bind]
      have hst : (store ((⟨b, off, none⟩ : Addr).add i) v).run P w = .ok () (w.setCell ⟨b, off + i, none⟩ v) := by
        rw [addr_add]
        have hv := hs v (by simp)
        unfold store
        cases v <;> first | exact hv.elim | simp [Sem.run, hcell, hfz]
      rw [hst]
      exact h1
    · refine hw.trans ?_
      have e : splice (cs.setIfInBounds (off + i) v).toList (off + (i + 1)) vs = splice cs.toList (off + i) (v :: vs) := by
        apply List.ext_getElem?
        intro j
        rw [splice_get _ _ _ (by simp; omega), splice_get _ _ _ (by simp; omega)]
        simp only [List.length_cons]
        by_cases h1 : off + (i + 1) ≤ j ∧ j < off + (i + 1) + vs.length
        · rw [if_pos h1, if_pos (by omega), show j - (off + i) = (j - (off + (i + 1))) + 1 by omega]; rfl
        · rw [if_neg h1]
          by_cases h2 : j = off + i
          · subst h2
            rw [if_pos (by omega), Array.getElem?_toList, Array.getElem?_setIfInBounds, if_pos rfl, if_pos (by omega)]; simp
          · rw [if_neg (by omega), Array.getElem?_toList, Array.getElem?_setIfInBounds, if_neg (fun e => h2 e.symm), Array.getElem?_toList]
      rw [← e]
      exact h2

/-- Cells of the call's own are written: where the new cells lie is known, or all of it lies behind what is known. -/
theorem put_ok (r : Rel ι base s w) {a a' : Addr} (ha : AR ι a a') {vs ys : List Value} (hv : LR ι vs ys) (hs : ∀ x ∈ vs, scal x) {s' : St} (h : s.put a vs = some s') (S : Nat → Prop) :
    ∃ w', (storeCells a' ys).run P w = .ok () w' ∧ Ext S ι base s w ι s' w' := by
  obtain ⟨⟨cs, es, md⟩, h1, h2⟩ := ob_eq.1 h
  obtain ⟨h3, h2⟩ := must_eq.1 h2
  obtain ⟨h4, h2⟩ := must_eq.1 h2
  cases h2
  rw [Nat.ble_eq, lenL_eq, lenL_eq] at h4
  have hg := asCells_eq h1
  obtain ⟨B, hB, hsp, rfl⟩ := ha
  obtain ⟨cs', T, fr, g1, ⟨g2, g3, g4, g5⟩, g6⟩ := r.cells hg hB
  simp only at h3 h4 g2 g3 g4 g5 g6 ⊢
  have hl := hv.length
  have hys : ∀ y ∈ ys, scal y := by
    intro y hy
    obtain ⟨i, hi, rfl⟩ := List.mem_iff_getElem.1 hy
    have hi' : i < vs.length := by omega
    have := hv.get i vs[i] ys[i] (List.getElem?_eq_getElem hi') (List.getElem?_eq_getElem hi)
    exact this.scal (hs _ (List.getElem_mem hi'))
  have hfree : ∀ o, B.sh + a.off + 0 ≤ o → o < B.sh + a.off + 0 + ys.length → ¬ (fr.1 ≤ o ∧ o < fr.2) := by
    intro o ho1 ho2
    cases md with
    | ro => cases h3
    | ex => obtain ⟨_, _, rfl⟩ := g5; simp
    | sx => obtain ⟨p1, p2, p3⟩ := g5; exact p3 o (by omega) (by omega)
    | gr => exact g5 o (by omega) (by omega)
    | fz => cases h3
  obtain ⟨w', k1, k2⟩ := run_storeCells (P := P) ys 0 w cs' g1 (by omega) hys hfree
  refine ⟨w', k1, Ext.write r a.block _ _ B hg ?_ hB k2.size k2.old k2.os k2.tape k2.output ?_⟩
  · cases md <;> first | rfl | cases h3
  · refine ⟨_, T, fr, k2.at_, ⟨?_, ?_, ?_, ?_⟩, by rw [splice_length _ _ _ (by omega)]; exact g6⟩
    · show (splice cs'.toList (B.sh + a.off + 0) ys).length = B.n
      rw [splice_length _ _ _ (by simp; omega)]; simpa using g2
    · rw [splice_length _ _ _ (by omega)]; exact g3
    · intro i x hx
      rw [splice_get _ _ _ (by omega)] at hx
      rw [arr_get, splice_get _ _ _ (by simp; omega)]
      by_cases hi : a.off ≤ i ∧ i < a.off + vs.length
      · rw [if_pos hi] at hx
        rw [if_pos (by omega), show B.sh + i - (B.sh + a.off + 0) = i - a.off by omega]
        obtain ⟨y, hy, hvy⟩ := hv.some hx
        exact ⟨hs x (List.mem_of_getElem? hx), y, hy, hvy⟩
      · rw [if_neg hi] at hx
        rw [if_neg (by omega), Array.getElem?_toList]
        exact g4 i x hx
    · have hlen : (splice cs a.off vs).length = cs.length := splice_length _ _ _ (by omega)
      rw [hlen]; exact g5

theorem d_store (r : Rel ι base s w) {S : Nat → Prop} {T : TypeId} {x y : Operand} (ho : o.op = .store T x y) {n : Nat} (hn : sizeOf? P T = some n) {a : Addr} (hx : VR ι (.pointer (some a)) (ρ x)) {Y : Value} (hy : VR ι Y (ρ y)) (hs : storable Y = true)
    (hlen : (vcells Y).length = n) {s' : St} (h : s.put a (vcells Y) = some s') : Does P S ι base s w (execOp ρ o) undef s' := by
  obtain ⟨a', e, ha⟩ := hx.ptrE
  obtain ⟨g1, g2⟩ := hy.vcells hs
  obtain ⟨w', k1, k2⟩ := put_ok (P := P) r ha g1 g2 h S
  refine Does.skip ?_ k2
  simp only [execOp, ho]
  have hsz : (ρ y).cells.size = n := by rw [hy.cells_size hs, hlen]
  have hrun : (Instr.storeAt T (ρ x) (ρ y)).run P w = .ok () w' := by
    rw [e]
    unfold Instr.storeAt Instr.sureAddr storeVar
    simp only [Sem.run_bind, Sem.run_pure, Result.andThen, run_sizeOf hn, hsz, ne_eq, not_true_eq_false, if_false]
    exact k1
  rw [Sem.run_bind, hrun]
  rfl
end
end Go.Ev
