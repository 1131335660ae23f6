/-
  The document's lines of a text, and how its parser gives up.
-/
import Derived.Test.YtoinadgkjnbejaaDoorPgApp
set_option linter.unusedVariables false
set_option linter.unusedSimpArgs false
namespace Go.Ev
noncomputable section
open Go.Pg
theorem joinL_mem {x : Ln} : ∀ {l : List Ln}, x ∈ l → x.length ≤ (joinL l).length
  | [], h => by cases h
  | y :: r, h => by
    rw [joinL]
    rcases List.mem_cons.1 h with rfl | h
    · simp
    · have := joinL_mem h; simp; omega
theorem lns_sh (s : Ln) : ∀ x ∈ (lns s).1, x.length ≤ s.length := by
  intro x hx
  have h := congrArg List.length (join_lns s)
  rw [List.length_append] at h
  have := joinL_mem hx
  omega
section
variable {E : Env} {f : FuncId} {s t u : St}
theorem doc_none {l : Ln} (h : docR l = none) : errOf l = 3 ∧ docOf l = noDoc := by unfold errOf docOf; rw [h]; exact ⟨rfl, rfl⟩
theorem doc_some {l : Ln} {d : Doc} (h : docR l = some d) : errOf l = 0 ∧ docOf l = d := by unfold errOf docOf; rw [h]; exact ⟨rfl, rfl⟩
def ParsePost (s : St) (l : Ln) (r : Value) (t : St) : Prop := Low s.next s t ∧ ∃ cs, r = .tuple ⟨[.agg ⟨cs⟩, .int .i64 (errOf l)]⟩ ∧ DocM t s.next t.next cs (docOf l)
theorem noCells_len : Nat.beq (lenL noCells) 5 = true := rfl
theorem refFail {fr : Fr} {r : Nat} {l : Ln} {cs0 : List Value} (x : Nat) (hx2 : x ≠ 2) (hx3 : x ≠ 3) (L : Low s.next s t) (hr : s.next ≤ r) (R : Row t r cs0) (hc : cs0.length = 5) (h2 : fr.get 2 = some (ptr r 0)) (hn : docR l = none) {Q : Ex → Fr → St → Prop}
    (hQ : ∀ fr' t', (isExit .ret = false ∧ ∃ m, optL (oneRes fr' t') [.cell 2 true 5, .tmp 3] = some m ∧ ParsePost s l (tupled m) t') → Q .ret fr' t') :
    W E (.seq (.region 0 [⟨some x, .build [.string ⟨⟨[]⟩⟩, .slice none 0 0, .slice none 0 0, .slice none 0 0, .slice none 0 0] [], none, 0, []⟩, ⟨none, .store 5 (.t 2) (.t x), none, 1, []⟩, ⟨some 3, .mov (.c (.int .i64 3)), none, 2, []⟩]) .ret) fr t Q := by
  obtain ⟨t2, p2, R2, n2, f2⟩ := R.put (o := 0) (vs := noCells) (by rw [hc]; decide)
  have hsp : splice cs0 0 noCells = noCells := by
    rw [splice_eq, List.take_zero, List.nil_append, List.drop_eq_nil_of_le (by rw [hc]; decide), List.append_nil]
  rw [hsp] at R2
  have hx2' : ¬ 2 = x := fun e => hx2 e.symm
  have hx3' : ¬ 3 = x := fun e => hx3 e.symm
  have hb : fillL (evP fr []) noCells = some noCells := rfl
  have hst : storable (.agg ⟨noCells⟩) = true := rfl
  have hvc : vcells (.agg ⟨noCells⟩) = noCells := rfl
  have hcells : ([strOf [], .slice none 0 0, .slice none 0 0, .slice none 0 0, .slice none 0 0] : List Value) = noCells := rfl
  refine W_seq (W_ops ?_)
  refine Wo_build (l := noCells) rfl ?_
  refine Wo_all (by simp only [simq, Int.reduceEq, Nat.reduceEqDiff, h2, hx2, hx2', hx3, hx3', p2, hst, hvc, noCells_len]; rfl) ?_
  obtain ⟨z1, z2⟩ := doc_none hn
  refine W_ret (hQ _ _ ⟨rfl, _, res_cell (by simp only [simq, Int.reduceEq, Nat.reduceEqDiff, h2, hx2, hx2']) (R2.row rfl) (res_tmp res_nil), ?_, noCells, ?_, ?_⟩)
  · exact L.trans (Low.weak (But.low (a := r) (lo := s.next) (but_put n2 f2) hr L.2.1) (Nat.le_refl _))
  · rw [z1]; simp only [simq, Int.reduceEq, Nat.reduceEqDiff, tupled]
  · rw [z2]; exact noDocM _ _ _
end
end
end Go.Ev
