/-
  The bytes of a reply, the document's side.
-/
import Derived.Test.YtmpckglmfklfiaaGreatDoorCdRefPut2
set_option linter.unusedVariables false
set_option linter.unusedSimpArgs false
namespace Go.Ev
noncomputable section
section
variable {E : Env} {f : FuncId} {s t : St} {L a c0 : Nat} {b : List UInt8} {q : Bool} {v w u : Value} {l : List UInt8} {its : List ItemC}
def ItemC.sick (i : ItemC) : Bool := ((decide (i.id < 0) || decide (4294967296 ≤ i.id)) || (decide (i.parent < 0) || decide (4294967296 ≤ i.parent))) || decide ((31 : Int) < (i.name.length : Nat))
theorem add_two (x : Addr) (i j : Nat) : (x.add i).add j = x.add (i + j) := by
  unfold Addr.add
  by_cases hi : i = 0 <;> by_cases hj : j = 0 <;> simp [hi, hj, Nat.add_assoc]
structure PrL (s0 : St) (L a c0 : Nat) (cs : List Value) (pre : List UInt8) (q0 : Bool) (its : List ItemC) (i : Nat) (fr : Fr) (s : St) : Prop where
  le : i ≤ its.length
  f1 : fr.get 1 = some (ptr c0 0)
  f4 : fr.get 4 = some (ptr a 0)
  f5 : fr.get 5 = some (.int .i64 (i : Nat))
  bl : Bl L a s0 s
  w : ∃ v m, m.length ≤ 100 * i ∧ ((∀ x ∈ its.take i, x.ok) → m = ((its.take i).map ItemC.bytes).flatten) ∧ Wt s L a (pre ++ m) (q0 || (its.take i).any ItemC.sick) v
end
end
end Go.Ev
