/-
  The bytes of a reply, the program's side.
-/
import Derived.Test.YtmpckglmfklfiaaGreatDoorCdGetReply
set_option linter.unusedVariables false
set_option linter.unusedSimpArgs false
namespace Go.Ev
noncomputable section
def dirB (b : Bool) : UInt8 := if b then 1 else 0
def ItemC.bytes (i : ItemC) : List UInt8 := beB 4 i.id.toNat ++ (beB 4 i.parent.toNat ++ (dirB i.dir :: countB i.name))
def ItemC.ok (i : ItemC) : Prop := (0 ≤ i.id ∧ i.id < 4294967296) ∧ (0 ≤ i.parent ∧ i.parent < 4294967296) ∧ i.name.length ≤ 31
instance (i : ItemC) : Decidable i.ok := by unfold ItemC.ok; infer_instance
def ReplyC.bad (r : ReplyC) (data : List UInt8) (its : List ItemC) : Bool :=
  decide (r.err < 0) || (decide (65535 < r.err) || (!numberOk r.n || (decide ((65535 : Int) < (r.text.length : Nat)) || (decide ((300 : Int) < (data.length : Nat)) || decide ((20 : Int) < (its.length : Nat))))))
def ReplyC.ok (r : ReplyC) (data : List UInt8) (its : List ItemC) : Prop := r.bad data its = false ∧ ∀ i ∈ its, i.ok
instance (r : ReplyC) (data : List UInt8) (its : List ItemC) : Decidable (r.ok data its) := by unfold ReplyC.ok; infer_instance
def ReplyC.head (r : ReplyC) (data : List UInt8) (its : List ItemC) : List UInt8 :=
  beB 2 r.err.toNat ++ (numB r.n ++ ((beB 2 r.text.length ++ r.text) ++ ((beB 2 data.length ++ data) ++ [UInt8.ofNat its.length])))
def ReplyC.bytes (r : ReplyC) (data : List UInt8) (its : List ItemC) : List UInt8 := r.head data its ++ (its.map ItemC.bytes).flatten
theorem Sl.same {s : St} {v : Value} {cs : List Value} {hi size : Nat} (h : Sl s hi size v cs) : same v v = true := by
  obtain ⟨p, n, c, rfl, _⟩ := h.parts
  exact same_slice h.spot
section
variable {E : Env} {f : FuncId} {s t : St} {v w u : Value}
end
end
end Go.Ev
