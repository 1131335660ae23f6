/-
  Ranges over maps: what the model's operations do; a map that is put aside, and taken up again.
-/
import Derived.Test.YticaodbgdjjgdaaGreatDoorEvCode
set_option linter.unusedVariables false
set_option linter.unusedSimpArgs false
namespace Go.Ev
open Go (Sem)
section
variable {P : Program} {ι κ : Inj} {w w' : World} {base : Nat} {s s' : St}

/-- A new block that is nobody's. -/
theorem Ext.newDead {S : Nat → Prop} (r : Rel ι base s w) (obj : Obj) : Ext S ι base s w (ι.put s.next ⟨w.heap.size, 0, 0, 0⟩) ((s.set s.next .dead).bump 1) { w with heap := w.heap.push obj } := by
  obtain ⟨n1, n2⟩ := r.next s.next (Nat.le_refl _)
  have hle : ι.le (ι.put s.next ⟨w.heap.size, 0, 0, 0⟩) := Inj.le_put _ n2
  have hold : ∀ b, b < w.heap.size → (w.heap.push obj)[b]? = w.heap[b]? := fun b hb => by rw [Array.getElem?_push, if_neg (by omega)]
  have look : ∀ a o, ((s.set s.next .dead).bump 1).get a = some o → live o = true → s.get a = some o ∧ a ≠ s.next := by
    intro a o h hl
    rw [St.get_bump, St.get_set] at h
    by_cases e : s.next = a
    · rw [if_pos e] at h; cases h; cases hl
    · rw [if_neg e] at h; exact ⟨h, fun e2 => e e2.symm⟩
  refine ⟨hle, ⟨?_, ?_, ?_, ?_, ?_, ?_⟩, by simp, ?_, fun b hb _ => hold b hb, ?_, by simp, rfl, rfl, rfl⟩
  · intro a o h hl
    obtain ⟨h1, h2⟩ := look a o h hl
    obtain ⟨B, g1, g2⟩ := r.ob a o h1 hl
    exact ⟨B, hle _ _ g1, (g2.mono hle).block (hold _ (r.blk a B g1))⟩
  · intro a a' o o' B B' h h' hne ho hl hB hB'
    obtain ⟨h1, h2⟩ := look a o h (owned_live ho)
    obtain ⟨h3, h4⟩ := look a' o' h' hl
    rw [Inj.put_ne _ _ h2] at hB
    rw [Inj.put_ne _ _ h4] at hB'
    exact r.sep a a' o o' B B' h1 h3 hne ho hl hB hB'
  · intro a o B h ho hB
    obtain ⟨h1, h2⟩ := look a o h (owned_live ho)
    rw [Inj.put_ne _ _ h2] at hB
    exact r.own a o B h1 ho hB
  · intro a ha
    simp only [St.next_bump, St.next_set] at ha
    obtain ⟨g1, g2⟩ := r.next a (by omega)
    rw [St.get_bump, St.get_set_ne _ _ (by omega), Inj.put_ne _ _ (by omega)]
    exact ⟨g1, g2⟩
  · intro a B hB
    simp only [Array.size_push]
    by_cases e : a = s.next
    · subst e; rw [Inj.put_same] at hB; cases hB; simp
    · rw [Inj.put_ne _ _ e] at hB; have := r.blk a B hB; omega
  · have := r.base_le; simp only [Array.size_push]; omega
  · intro a ha _ g1
    rw [St.get_bump, St.get_set_ne _ _ (by omega), Inj.put_ne _ _ (by omega)]
    exact ⟨g1, id⟩
  · intro a o B h hl hB hlt
    obtain ⟨h1, h2⟩ := look a o h hl
    rw [Inj.put_ne _ _ h2] at hB
    exact ⟨a, o, B, h1, hl, fun h => h, hB, rfl⟩

/-- Nothing known lies in a block. -/
def Off (κ : Inj) (s : St) (b : Nat) : Prop := ∀ a o B, s.get a = some o → live o = true → κ a = some B → B.b ≠ b

/-- A step aside: in a block that is nobody's, and new since then. -/
theorem Ext.aside {S : Nat → Prop} {wn : World} (e : Ext S ι base s w κ s' w') {b : Nat} (hb : w.heap.size ≤ b) (hoff : Off κ s' b) (hsz : wn.heap.size = w'.heap.size) (hold : ∀ k, k ≠ b → wn.heap[k]? = w'.heap[k]?)
    (h1 : wn.os = w'.os) (h2 : wn.tape = w'.tape) (h3 : wn.output = w'.output) : Ext S ι base s w κ s' wn := by
  have r := e.rel
  refine ⟨e.le, ⟨?_, r.sep, r.own, r.next, fun a B hB => by rw [hsz]; exact r.blk a B hB, by rw [hsz]; exact r.base_le⟩, e.next, e.gone, ?_, e.img, by rw [hsz]; exact e.size, h1.trans e.os, h2.trans e.tape, h3.trans e.output⟩
  · intro a o ha hl
    obtain ⟨B, g1, g2⟩ := r.ob a o ha hl
    exact ⟨B, g1, g2.block (hold _ (hoff a o B ha hl g1))⟩
  · intro k hk hn
    rw [hold k (by omega)]
    exact e.keep k hk hn

theorem Off.step {S : Nat → Prop} {b : Nat} (h : Off ι s b) (hb : b < w.heap.size) (e : Ext S ι base s w κ s' w') : Off κ s' b := by
  intro a o B ha hl hB he
  obtain ⟨a0, o0, B0, f1, f2, _, f4, f5⟩ := e.img a o B ha hl hB (by omega)
  exact h a0 o0 B0 f1 f2 f4 (by omega)
theorem Off.keeps {S : Nat → Prop} {b : Nat} (h : Off ι s b) (hb : b < w.heap.size) (e : Ext S ι base s w κ s' w') : w'.heap[b]? = w.heap[b]? :=
  e.keep b hb fun a o B ha ho hB he => h a o B ha (owned_live ho) hB he

/-- A map that was put aside is taken up again. -/
theorem Ext.restored {q : Nat} {es : List (Value × Value)} {clk : Nat} {B : Blk} (r : Rel ι base s w) (hq : s.get q = some (.map es clk)) (hB : ι q = some B) (e : Ext none_ ι base (s.set q .dead) w κ s' w') (hdead : ∀ o, s'.get q = some o → live o = false) :
    Ext none_ ι base s w κ (s'.set q (.map es clk)) w' := by
  have hqlt : q < s.next := by
    rcases Nat.lt_or_ge q s.next with h | h
    · exact h
    · rw [(r.next q h).1] at hq; cases hq
  have hn : s.next ≤ s'.next := by have := e.next; simpa using this
  -- no one else lies there
  have away : ∀ a o Ba, s'.get a = some o → live o = true → κ a = some Ba → Ba.b ≠ B.b := by
    intro a o Ba ha hl hBa he
    have hb := r.blk q B hB
    obtain ⟨a0, o0, B0, f1, f2, _, f4, f5⟩ := e.img a o Ba ha hl hBa (by omega)
    rw [St.get_set] at f1
    by_cases h : q = a0
    · rw [if_pos h] at f1; cases f1; cases f2
    · rw [if_neg h] at f1
      exact r.sep q a0 _ o0 B B0 hq f1 h rfl f2 hB f4 (by omega)
  have hkeep : w'.heap[B.b]? = w.heap[B.b]? := by
    refine e.keep B.b (r.blk q B hB) fun a o Ba ha ho hBa he => ?_
    rw [St.get_set] at ha
    by_cases h : q = a
    · rw [if_pos h] at ha; cases ha; cases ho
    · rw [if_neg h] at ha
      exact r.sep q a _ o B Ba hq ha h rfl (owned_live ho) hB hBa he.symm
  have hκ := e.le _ _ hB
  have r' := e.rel
  have look : ∀ a o, (s'.set q (.map es clk)).get a = some o → (a = q ∧ o = .map es clk) ∨ (a ≠ q ∧ s'.get a = some o) := by
    intro a o ha
    rw [St.get_set] at ha
    by_cases h : q = a
    · rw [if_pos h] at ha; cases ha; exact .inl ⟨h.symm, rfl⟩
    · rw [if_neg h] at ha; exact .inr ⟨fun e => h e.symm, ha⟩
  refine ⟨e.le, ⟨?_, ?_, ?_, ?_, r'.blk, r'.base_le⟩, by rw [St.next_set]; exact hn, ?_, ?_, ?_, e.size, e.os, e.tape, e.output⟩
  · intro a o ha hl
    rcases look a o ha with ⟨rfl, rfl⟩ | ⟨h1, h2⟩
    · obtain ⟨B0, g1, g2⟩ := r.ob a _ hq rfl
      rw [hB] at g1; cases g1
      exact ⟨B, hκ, (g2.mono e.le).block hkeep⟩
    · exact r'.ob a o h2 hl
  · intro a a' o o' Ba Ba' ha ha' hne ho hl hBa hBa'
    rcases look a o ha with ⟨rfl, rfl⟩ | ⟨h1, h2⟩ <;> rcases look a' o' ha' with ⟨rfl, rfl⟩ | ⟨h3, h4⟩
    · exact absurd rfl hne
    · rw [hκ] at hBa; cases hBa
      exact (away a' o' Ba' h4 hl hBa').symm
    · rw [hκ] at hBa'; cases hBa'
      exact away a o Ba h2 (owned_live ho) hBa
    · exact r'.sep a a' o o' Ba Ba' h2 h4 hne ho hl hBa hBa'
  · intro a o Ba ha ho hBa
    rcases look a o ha with ⟨rfl, rfl⟩ | ⟨h1, h2⟩
    · rw [hκ] at hBa; cases hBa
      exact r.own a _ _ hq rfl hB
    · exact r'.own a o Ba h2 ho hBa
  · intro a ha
    rw [St.next_set] at ha
    obtain ⟨g1, g2⟩ := r'.next a ha
    rw [St.get_set_ne _ _ (by omega)]
    exact ⟨g1, g2⟩
  · intro a ha hs g1
    have hne : q ≠ a := fun h => by rw [← h, hq] at g1; cases g1
    have := e.gone a (by simpa using ha) hs (by rw [St.get_set, if_neg hne]; exact g1)
    rw [St.get_set, if_neg hne]
    exact this
  · intro b hb hno
    refine e.keep b hb fun a o Ba ha ho hBa he => ?_
    rw [St.get_set] at ha
    by_cases h : q = a
    · rw [if_pos h] at ha; cases ha; cases ho
    · rw [if_neg h] at ha; exact hno a o Ba ha ho hBa he
  · intro a o Ba ha hl hBa hlt
    rcases look a o ha with ⟨rfl, rfl⟩ | ⟨h1, h2⟩
    · rw [hκ] at hBa; cases hBa
      exact ⟨a, _, B, hq, rfl, fun h => h, hB, rfl⟩
    · obtain ⟨a0, o0, B0, f1, f2, f3, f4, f5⟩ := e.img a o Ba h2 hl hBa hlt
      rw [St.get_set] at f1
      by_cases h : q = a0
      · rw [if_pos h] at f1; cases f1; cases f2
      · rw [if_neg h] at f1
        exact ⟨a0, o0, B0, f1, f2, f3, f4, f5⟩

/- The model's operations. -/
theorem run_getIter {r : Nat} {m : Option Nat} {since stepped : Nat} {seen : Array Nat} (h : w.heap[r]? = some (.mapIter m since seen stepped)) : (getObj r).run P w = .ok (.mapIter m since seen stepped) w := by
  simp [getObj, Sem.run, h]
theorem run_setIter {r : Nat} {m : Option Nat} {since stepped : Nat} {seen : Array Nat} (o : Obj) (h : w.heap[r]? = some (.mapIter m since seen stepped)) : (setObj r o).run P w = .ok () { w with heap := w.heap.setIfInBounds r o } := by
  simp [setObj, Sem.run, h]

/-- What is left of a map's entries. -/
def leftOf (es : Array MapEntry) (seen : Array Nat) : List MapEntry := es.toList.filter fun e => !seen.contains e.born

theorem run_next_over {b : Nat} {since stepped : Nat} {seen : Array Nat} (h : w.heap[b]? = some (.mapIter none since seen stepped)) (ty : TypeId) : (Instr.next (.pointer (some ⟨b, 0, none⟩)) false ty).run P w = .ok no_ w := by
  simp [Instr.next, run_getIter h, Result.andThen]; rfl

section
variable {b m since clk : Nat} {seen : Array Nat} {es : Array MapEntry}
theorem next_body (hi : w.heap[b]? = some (.mapIter (some m) since seen clk)) (hm : w.heap[m]? = some (.map es clk)) (h1 : ∀ e ∈ es.toList, e.born < since) (h2 : ∀ e ∈ es.toList, e.born < clk) (ty : TypeId) :
    (Instr.next (.pointer (some ⟨b, 0, none⟩)) false ty).run P w = (do
      match ((if (leftOf es seen).toArray.isEmpty then #[none] else #[]) ++ (leftOf es seen).toArray.map some)[← choose (.mapNext ((if (leftOf es seen).toArray.isEmpty then #[none] else #[]) ++ (leftOf es seen).toArray.map some).size)]? with
      | some (some e) =>
        setObj b (.mapIter (some m) since (seen.push e.born) clk)
        pure (.tuple #[.bool true, e.key, e.val])
      | some none => pure (.tuple #[.bool false])
      | none => stuck "Next: no such candidate" : Sem Value).run P w := by
  have hg : (!seen.isEmpty && !es.isEmpty && es.all (·.born ≥ clk)) = false := by
    cases he : es.isEmpty with
    | true => simp
    | false =>
      have : es.all (·.born ≥ clk) = false := by
        rw [Bool.eq_false_iff]
        intro h
        have hne : es.toList ≠ [] := by intro e; simp [e] at he; simp_all
        obtain ⟨x, hx⟩ := List.exists_mem_of_ne_nil _ hne
        have := Array.all_eq_true_iff_forall_mem.1 h x (by simpa using hx)
        have := h2 x hx
        simp only [ge_iff_le, decide_eq_true_eq] at *
        omega
      rw [this]; simp
  have hold : (es.filter (fun e => !seen.contains e.born)).filter (fun e => decide (e.born < since)) = (leftOf es seen).toArray := by
    apply Array.ext'
    simp only [Array.toList_filter, leftOf]
    rw [List.filter_eq_self]
    intro e he
    have := h1 e (List.mem_filter.1 he).1
    simpa using this
  have hnew : (es.filter (fun e => !seen.contains e.born)).filter (fun e => decide (e.born ≥ since)) = #[] := by
    apply Array.ext'
    simp only [Array.toList_filter, List.filter_eq_nil_iff]
    intro e he
    have := h1 e (List.mem_filter.1 he).1
    simp only [ge_iff_le, decide_eq_true_eq]
    omega
  simp only [Instr.next, Sem.run_bind, run_getIter hi, Result.andThen, run_getObj_map hm, hg, hold, hnew, Array.append_empty, Bool.false_eq_true, if_false]
  rfl
theorem run_next_done (hi : w.heap[b]? = some (.mapIter (some m) since seen clk)) (hm : w.heap[m]? = some (.map es clk)) (h1 : ∀ e ∈ es.toList, e.born < since) (h2 : ∀ e ∈ es.toList, e.born < clk) (ty : TypeId) (hl : leftOf es seen = []) :
    (Instr.next (.pointer (some ⟨b, 0, none⟩)) false ty).run P w = .ok no_ w := by
  rw [next_body hi hm h1 h2 ty, hl]
  simp [choose, Sem.run, Question.forced, Result.andThen]; rfl
theorem run_next_take (hi : w.heap[b]? = some (.mapIter (some m) since seen clk)) (hm : w.heap[m]? = some (.map es clk)) (h1 : ∀ e ∈ es.toList, e.born < since) (h2 : ∀ e ∈ es.toList, e.born < clk) (ty : TypeId) (hl : leftOf es seen ≠ []) :
    ∃ e d, e ∈ leftOf es seen ∧ (Instr.next (.pointer (some ⟨b, 0, none⟩)) false ty).run P w = .ok (.tuple #[.bool true, e.key, e.val]) { w with heap := w.heap.setIfInBounds b (.mapIter (some m) since (seen.push e.born) clk), drawn := d } := by
  have hpos : 0 < (leftOf es seen).length := List.length_pos_iff.2 hl
  generalize hL : leftOf es seen = L at *
  have hemp : L.toArray.isEmpty = false := by simp [hl]
  have pick : ∀ (i d : Nat) (hi2 : i < L.length), (match (L.toArray.map some)[i]? with
      | some (some e) => do
        setObj b (.mapIter (some m) since (seen.push e.born) clk)
        pure (.tuple #[.bool true, e.key, e.val])
      | some none => pure (.tuple #[.bool false])
      | none => stuck "Next: no such candidate" : Sem Value).run P { w with drawn := d } = .ok (.tuple #[.bool true, L[i].key, L[i].val]) { w with heap := w.heap.setIfInBounds b (.mapIter (some m) since (seen.push L[i].born) clk), drawn := d } := by
    intro i d hi2
    have e1 : (L.toArray.map some)[i]? = some (some L[i]) := by simp [hi2]
    rw [e1]
    have hi' : ({ w with drawn := d } : World).heap[b]? = some (.mapIter (some m) since seen clk) := hi
    simp only [Sem.run_bind, run_setIter _ hi', Result.andThen]
    rfl
  rw [next_body hi hm h1 h2 ty, hL, hemp]
  simp only [Bool.false_eq_true, if_false, Array.empty_append, Array.size_map, List.size_toArray]
  by_cases hf : L.length ≤ 1
  · refine ⟨L[0], w.drawn, List.getElem_mem _, ?_⟩
    have hch : (choose (.mapNext L.length)).run P w = .ok 0 w := by simp [Question.forced, hf]
    rw [Sem.run_bind, hch]
    exact pick 0 w.drawn hpos
  · have hlt : (Question.mapNext L.length).cut (w.tape w.drawn (.mapNext L.length)) < L.length := Nat.mod_lt _ hpos
    refine ⟨L[(Question.mapNext L.length).cut (w.tape w.drawn (.mapNext L.length))], w.drawn + 1, List.getElem_mem _, ?_⟩
    have hch : (choose (.mapNext L.length)).run P w = .ok ((Question.mapNext L.length).cut (w.tape w.drawn (.mapNext L.length))) { w with drawn := w.drawn + 1 } := by
      simp only [choose, Sem.run, Question.forced, hf, decide_false, Bool.false_eq_true, if_false]
    rw [Sem.run_bind, hch]
    exact pick _ (w.drawn + 1) hlt

theorem run_entry (hi : w.heap[b]? = some (.mapIter (some m) since seen clk)) (hm : w.heap[m]? = some (.map es clk)) (hnd : (es.toList.map (·.born)).Nodup) {e : MapEntry} (he : e ∈ es.toList) (hs : seen.back? = some e.born) :
    (Instr.entry (.pointer (some ⟨b, 0, none⟩))).run P w = .ok (.tuple #[e.key, e.val]) w := by
  have hf : es.find? (·.born == e.born) = some e := by
    rw [← Array.find?_toList]
    revert he hnd
    generalize es.toList = l
    intro hnd he
    induction l with
    | nil => simp at he
    | cons x l ih =>
      rw [List.map_cons, List.nodup_cons] at hnd
      rw [List.find?_cons]
      rcases List.mem_cons.1 he with rfl | he
      · simp
      · have hne : (x.born == e.born) = false := by
          rw [beq_eq_false_iff_ne]
          intro h
          exact hnd.1 (List.mem_map.2 ⟨e, he, h.symm⟩)
        rw [hne]
        exact ih hnd.2 he
  simp [Instr.entry, run_getIter hi, Result.andThen, hs, run_getObj_map hm, hf]
end
end
end Go.Ev
