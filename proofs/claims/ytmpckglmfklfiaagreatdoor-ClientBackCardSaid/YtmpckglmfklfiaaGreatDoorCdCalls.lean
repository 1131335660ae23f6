/-
  The bytes of a call, on both sides.
-/
import Derived.Test.YtmpckglmfklfiaaGreatDoorCdRefPut
import Derived.Test.YtmpckglmfklfiaaGreatDoorCdGets
set_option linter.unusedVariables false
set_option linter.unusedSimpArgs false
namespace Go.Ev
noncomputable section
section
variable {E : Env} {f : FuncId} {s : St} {w : Value} {l : List UInt8}
def putM (c : CallC) (l : List UInt8) : List UInt8 := if c.ok l then c.bytes l else []
def putX (c : CallC) (l : List UInt8) : Int := if c.ok l then 0 else 2
theorem long_false {c : CallC} (h : c.long l = false) : c.do_.length ≤ 60 ∧ c.name.length ≤ 60 ∧ c.to.length ≤ 60 ∧ l.length ≤ 500 := by
  unfold CallC.long at h
  simp only [Bool.or_eq_false_iff, decide_eq_false_iff_not] at h
  omega
theorem PutCall_one (hC : Codes E) (hf : Has E f Code.client_PutCall) {c : CallC} (hw : Sl s s.next 1 w (l.map ofByte)) (hl : c.long l = false) : Cv E f [.agg ⟨c.cells w⟩] s fun r s' => Low s.next s s' ∧ ∃ x, r = .tuple ⟨[x, .int .i64 (putX c l)]⟩ ∧ Sl s' s'.next 1 x ((putM c l).map ofByte) := by
  obtain ⟨p, n, k, rfl, hn⟩ := hw.parts
  obtain ⟨h1, h2, h3, h4⟩ := long_false hl
  refine (PutCall_run hC hf (Nat.le_refl _) hw (by unfold room; omega)).mono ?_
  rintro r s' (⟨h, x, rfl, g1, g2⟩ | ⟨h, rfl, g2⟩)
  · exact ⟨g2, x, by unfold putX; rw [if_pos h], by unfold putM; rw [if_pos h]; exact g1.sl⟩
  · exact ⟨g2, _, by unfold putX; rw [if_neg h], by unfold putM; rw [if_neg h]; exact .nil⟩
end
end
end Go.Ev
