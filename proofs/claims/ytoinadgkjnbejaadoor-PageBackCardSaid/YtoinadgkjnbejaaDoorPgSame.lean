/-
  Documents are the same: the document's own comparison.
-/
import Derived.Test.YtoinadgkjnbejaaDoorPgLines
import Derived.Test.YtoinadgkjnbejaaDoorPgApp
set_option linter.unusedVariables false
set_option linter.unusedSimpArgs false
deriving instance DecidableEq for Go.Pg.Doc
namespace Go.Ev
noncomputable section
open Go.Pg
section
variable {E : Env} {f : FuncId} {s t u : St}
theorem Lists.at {s : St} {hi : Nat} {p : Option Addr} {n c : Nat} {ls : List (List Ln)} (h : Lists s hi (.slice p n c) ls) : n = ls.length ∧ ∀ i (hi' : i < ls.length), ∃ a w, p = some a ∧ s.cell (a.add i) = some w ∧ Texts s hi w ls[i] := by
  obtain ⟨vs, v1, v2, v3⟩ := h
  obtain ⟨q, m, d, e, hm⟩ := v1.parts
  cases e
  refine ⟨by omega, fun i hi' => ?_⟩
  obtain ⟨a, rfl, hc⟩ := v1.cell (i := i) (by omega)
  have hiv : i < vs.length := by omega
  rw [List.getElem?_eq_getElem hiv] at hc
  exact ⟨a, _, rfl, hc, v3 i _ _ (List.getElem?_eq_getElem hiv) (List.getElem?_eq_getElem hi')⟩
theorem Lists.parts {s : St} {hi : Nat} {v : Value} {ls : List (List Ln)} (h : Lists s hi v ls) : ∃ p c, v = .slice p ls.length c := by
  obtain ⟨vs, v1, v2, v3⟩ := h
  obtain ⟨q, m, d, rfl, hm⟩ := v1.parts
  have : m = ls.length := by omega
  subst this
  exact ⟨_, _, rfl⟩
structure Mild (d : Doc) : Prop where
  h : d.header.length ≤ 1000000
  p : d.prologue.length ≤ 1000000
  g : d.pages.length ≤ 1000000
  gp : ∀ p ∈ d.pages, p.length ≤ 1000000
  t : d.trailer.length ≤ 1000000
end
end
end Go.Ev
