/-
  The rounds of a loop over a map.
-/
import Derived.Test.YticaodbgdjjgdaaGreatDoorEvRange1
set_option linter.unusedVariables false
set_option linter.unusedSimpArgs false
namespace Go.Ev
open Go (Sem)

/-- How the loop is left. -/
def exB (id : Nat) (e : Ex) : Exit → Prop
  | .exit j => if j = id then e = .normal else e = .exit j
  | .ret => e = .ret
  | _ => False

/-- The map's side of a loop: its block, its entries, its clock (none: the map is nil). -/
abbrev Side := Option (Nat × Array MapEntry × Nat)
def Iter (w : World) (bi : Nat) (mo : Side) (seen : Array Nat) : Prop := match mo with
  | none => ∃ since stepped sn, w.heap[bi]? = some (.mapIter none since sn stepped)
  | some (m, _, clk) => w.heap[bi]? = some (.mapIter (some m) clk seen clk)
def Left (κ : Inj) (mo : Side) (es : List (Value × Value)) (seen : Array Nat) : Prop := match mo with
  | none => es = []
  | some (_, es', clk) => ∃ p : List (Value × Value), p.Perm es ∧ ER κ clk p (leftOf es' seen)

theorem picks_mem {α : Type} {l : List α} : ∀ {p : List α} {x : α} {a b : List α}, l = a ++ x :: b → ∃ r, (x, r) ∈ picks l ∧ r.Perm (a ++ b) := by
  intro p x a
  induction a generalizing l with
  | nil => intro b h; subst h; exact ⟨b, by show (x, b) ∈ ((x, b) :: _); simp, .refl _⟩
  | cons y a ih =>
    intro b h
    subst h
    obtain ⟨r, h1, h2⟩ := ih (l := a ++ x :: b) (b := b) rfl
    refine ⟨y :: r, ?_, h2.cons y⟩
    show (x, y :: r) ∈ ((y, a ++ x :: b) :: mapL (fun p => (p.1, y :: p.2)) (picks (a ++ x :: b)))
    rw [mapL_eq]
    refine List.mem_cons_of_mem _ (List.mem_map.2 ⟨(x, r), h1, rfl⟩)

theorem ER.mem_split {κ : Inj} {clk : Nat} {p : List (Value × Value)} {m : List MapEntry} (h : ER κ clk p m) {e : MapEntry} (he : e ∈ m) : ∃ (a b : List (Value × Value)) (x : Value × Value) (c d : List MapEntry), p = a ++ x :: b ∧ m = c ++ e :: d ∧ VR κ x.1 e.key ∧ VR κ x.2 e.val ∧ ER κ clk a c ∧ ER κ clk b d := by
  induction h with
  | nil => simp at he
  | @cons y e' l m h1 h2 h3 t ih =>
    by_cases heq : e = e'
    · subst heq
      exact ⟨[], l, y, [], m, rfl, rfl, h1, h2, .nil, t⟩
    · obtain ⟨a, b, x, c, d, g1, g2, g3, g4, g5, g6⟩ := ih ((List.mem_cons.1 he).resolve_left heq)
      exact ⟨y :: a, b, x, e' :: c, d, by rw [g1]; rfl, by rw [g2]; rfl, g3, g4, .cons h1 h2 h3 g5, g6⟩
theorem ER.nil_iff {κ : Inj} {clk : Nat} {p : List (Value × Value)} {m : List MapEntry} (h : ER κ clk p m) : p = [] ↔ m = [] := by
  cases h <;> simp

/-- One entry is taken. -/
theorem Left.take {κ : Inj} {m clk : Nat} {es' : Array MapEntry} {es : List (Value × Value)} {seen : Array Nat} (h : Left κ (some (m, es', clk)) es seen) (hnd : (es'.toList.map (·.born)).Nodup) {e : MapEntry} (he : e ∈ leftOf es' seen) :
    ∃ x r, (x, r) ∈ picks es ∧ VR κ x.1 e.key ∧ VR κ x.2 e.val ∧ Left κ (some (m, es', clk)) r (seen.push e.born) := by
  obtain ⟨p, hp, her⟩ := h
  obtain ⟨a, b, x, c, d, g1, g2, g3, g4, g5, g6⟩ := her.mem_split he
  have hx : x ∈ es := hp.mem_iff.1 (by rw [g1]; simp)
  obtain ⟨u, v, huv⟩ := List.append_of_mem hx
  obtain ⟨r, h1, h2⟩ := picks_mem (p := []) huv
  refine ⟨x, r, h1, g3, g4, a ++ b, ?_, ?_⟩
  · refine List.Perm.trans ?_ h2.symm
    have : (a ++ x :: b).Perm (u ++ x :: v) := by rw [← g1, ← huv]; exact hp
    have h3 : (x :: (a ++ b)).Perm (x :: (u ++ v)) := (List.perm_middle.symm.trans this).trans List.perm_middle
    exact (List.perm_cons x).1 h3
  · have hl : leftOf es' (seen.push e.born) = c ++ d := by
      have hsub : (leftOf es' seen).Sublist es'.toList := List.filter_sublist
      have hnd2 : ((leftOf es' seen).map (·.born)).Nodup := hnd.sublist (hsub.map _)
      have : leftOf es' (seen.push e.born) = (leftOf es' seen).filter fun f => !(f.born == e.born) := by
        unfold leftOf
        rw [List.filter_filter]
        apply List.filter_congr
        intro f _
        rw [Array.contains_push]
        cases seen.contains f.born <;> cases h : (f.born == e.born) <;> simp [h] <;> simp_all [eq_comm]
      rw [this, g2] 
      rw [g2, List.map_append, List.map_cons] at hnd2
      rw [List.filter_append, List.filter_cons]
      have h0 : (!(e.born == e.born)) = false := by simp
      rw [h0]
      simp only [Bool.false_eq_true, if_false]
      have hnd3 := List.nodup_append.1 hnd2
      have hnd4 := List.nodup_cons.1 hnd3.2.1
      congr 1
      · rw [List.filter_eq_self]
        intro f hf
        have : f.born ≠ e.born := fun heq => hnd3.2.2 f.born (List.mem_map.2 ⟨f, hf, rfl⟩) e.born (by simp) heq
        simpa using this
      · rw [List.filter_eq_self]
        intro f hf
        have : f.born ≠ e.born := fun heq => hnd4.1 (List.mem_map.2 ⟨f, hf, heq⟩)
        simpa using this
    rw [hl]
    exact g5.append g6
theorem Left.none_iff {κ : Inj} {m clk : Nat} {es' : Array MapEntry} {es : List (Value × Value)} {seen : Array Nat} (h : Left κ (some (m, es', clk)) es seen) : es = [] ↔ leftOf es' seen = [] := by
  obtain ⟨p, hp, her⟩ := h
  rw [← her.nil_iff]
  constructor
  · rintro rfl; exact List.Perm.eq_nil hp
  · rintro rfl; exact List.Perm.eq_nil hp.symm
theorem Left.mono {κ μ : Inj} (hle : κ.le μ) {mo : Side} {es : List (Value × Value)} {seen : Array Nat} (h : Left κ mo es seen) : Left μ mo es seen := by
  cases mo with
  | none => exact h
  | some x =>
    obtain ⟨p, h1, h2⟩ := h
    exact ⟨p, h1, h2.mono hle⟩

/-- A plain operation of a region, that is told. -/
theorem ops_step {P : Program} {ops : Array Oper} {Q : Exit → Act → World → Prop} {i : Nat} {rest : List Nat} {a : Act} {w w' : World} {o : Oper} {v : Value} (ho : ops[i]? = some o) (hg : o.guard = none) (hrun : (execOp a.eval o).run P w = .ok (.value v) w') (h : wpOps P ops Q rest (a.put o.dst v) w') : wpOps P ops Q (i :: rest) a w := by
  show (match ops[i]? with
      | none => _
      | some o => if Region.wanted o (yielded ops a.tmps) then o.wp P a w (wpOps P ops Q rest) Q ∨ (o.asks P a w ∧ LetsOut Q) else wpOps P ops Q rest (a.put o.dst undef) w)
  rw [ho]
  simp only
  have hw : Region.wanted o (yielded ops a.tmps) = true := by unfold Region.wanted; rw [hg]
  rw [if_pos hw]
  left
  unfold Oper.wp
  rw [hrun]
  exact h
end Go.Ev
