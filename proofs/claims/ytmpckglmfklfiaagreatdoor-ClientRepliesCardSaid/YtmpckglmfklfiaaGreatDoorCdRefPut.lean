/-
  The bytes of a call, the document's side.
-/
import Derived.Test.YtmpckglmfklfiaaGreatDoorCdWrite
set_option linter.unusedVariables false
set_option linter.unusedSimpArgs false
namespace Go.Ev
noncomputable section
section
variable {E : Env} {f : FuncId} {s t : St} {L a : Nat} {b : List UInt8} {q : Bool} {v : Value}
theorem Sl.bl {hi size : Nat} {cs : List Value} (h : Sl s hi size v cs) (k : Bl L a s t) (hh : hi ≤ L) (ha : hi ≤ a) : Sl t hi size v cs := by
  cases h with
  | nil => exact .nil
  | mk hb hg hl hc => exact .mk hb (by rw [k.2 _ (by omega) (by omega)]; exact hg) hl hc
theorem Row.bl {c : Nat} {cs : List Value} (h : Row s c cs) (k : Bl L a s t) (hc : c < L) (ha : c ≠ a) : Row t c cs := by obtain ⟨es, h⟩ := h; exact ⟨es, by rw [k.2 c hc ha]; exact h⟩
def CallC.raw (c : CallC) : List UInt8 :=
  countB c.do_ ++ beB 4 (clampN c.dir) ++ beB 4 (clampN c.file) ++ beB 4 (clampN c.ref) ++ beB 4 (clampN c.from_) ++ beB 4 (clampN c.many) ++ countB c.name ++ countB c.to
def CallC.sick (c : CallC) : Bool :=
  (((((((false || decide ((31 : Int) < (c.do_.length : Nat))) || !numberOk c.dir) || !numberOk c.file) || !numberOk c.ref) || !numberOk c.from_) || !numberOk c.many) || decide ((31 : Int) < (c.name.length : Nat))) || decide ((31 : Int) < (c.to.length : Nat))
end
end
end Go.Ev
