/-
  Bytes and back, calls and replies: the law's walk.
-/
import Derived.Test.YtmpckglmfklfiaaGreatDoorCdReplies
import Derived.Test.YtmpckglmfklfiaaGreatDoorCdCalls
import Derived.Test.YtmpckglmfklfiaaGreatDoorCdBack
set_option linter.unusedVariables false
set_option linter.unusedSimpArgs false
namespace Go.Ev
noncomputable section
section
variable {E : Env} {f : FuncId} {s : St} {v w u : Value} {l d : List UInt8} {its : List ItemC}
theorem bytes_small {c : CallC} (h : c.long l = false) : (c.bytes l).length ≤ 65536 := by
  obtain ⟨h1, h2, h3, h4⟩ := long_false h
  simp [CallC.bytes, CallC.numbers, numB, bytesR, beB_length, countB]; omega
theorem bytesR_small {c : ReplyC} (h : c.long l its = false) (ho : c.ok l its) : (c.bytes l its).length ≤ 65536 := by
  obtain ⟨h1, h2, h3, h4⟩ := longR_false h
  have := items_length ho.2
  simp only [ReplyC.bytes, ReplyC.head, List.length_append, beB_length, numB, List.length_cons, List.length_nil] at *; omega
theorem gc_fwd {c : CallC} (h : c.ok d) : gcE (c.bytes d) = 0 ∧ gcC (c.bytes d) = c ∧ gcD (c.bytes d) = d := by
  obtain ⟨h1, h2, h3⟩ := call_fwd h
  unfold gcC gcD
  rw [if_pos h1, if_pos h1]
  exact ⟨h1, h2, h3⟩
theorem gr_fwd {c : ReplyC} (h : c.ok d its) : grE (c.bytes d its) = 0 ∧ grY (c.bytes d its) = c ∧ grD (c.bytes d its) = d ∧ grI (c.bytes d its) = its := by
  obtain ⟨h1, h2, h3, h4⟩ := reply_fwd h
  unfold grY grD grI
  rw [if_pos h1, if_pos h1, if_pos h1]
  exact ⟨h1, h2, h3, h4⟩
theorem gc_bwd (h : gcE l = 0) : (gcC l).ok (gcD l) ∧ (gcC l).bytes (gcD l) = l := by
  unfold gcC gcD
  rw [if_pos h, if_pos h]
  exact call_bwd h
theorem gr_bwd (h : grE l = 0) : (grY l).ok (grD l) (grI l) ∧ (grY l).bytes (grD l) (grI l) = l := by
  unfold grY grD grI
  rw [if_pos h, if_pos h, if_pos h]
  exact reply_bwd h
theorem ok_long {c : CallC} (h : c.ok d) : c.long d = false := by
  have hb := h.2
  unfold CallC.bad at hb
  simp only [Bool.or_eq_false_iff, decide_eq_false_iff_not] at hb
  unfold CallC.long
  simp only [Bool.or_eq_false_iff, decide_eq_false_iff_not]
  omega
theorem okR_long {c : ReplyC} (h : c.ok d its) (hl : (c.bytes d its).length ≤ 2000) : c.long d its = false := by
  have hb := h.1
  unfold ReplyC.bad at hb
  simp only [Bool.or_eq_false_iff, decide_eq_false_iff_not] at hb
  unfold ReplyC.long
  simp only [ReplyC.bytes, ReplyC.head, List.length_append] at hl
  simp only [Bool.or_eq_false_iff, decide_eq_false_iff_not, List.any_eq_false, ItemC.longI, decide_eq_true_eq]
  refine ⟨fun i hi => ?_, by omega⟩
  have := (h.2 i hi).2.2
  omega
end
end
end Go.Ev
