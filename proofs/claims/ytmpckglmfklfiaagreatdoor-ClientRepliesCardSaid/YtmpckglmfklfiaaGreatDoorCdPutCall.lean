/-
  The bytes of a call, the program's side.
-/
import Derived.Test.YtmpckglmfklfiaaGreatDoorCdSmall
import Derived.Test.YtmpckglmfklfiaaGreatDoorEvPart3
set_option linter.unusedVariables false
set_option linter.unusedSimpArgs false
namespace Go.Ev
noncomputable section
structure CallC where
  do_ : List UInt8
  dir : Int
  file : Int
  name : List UInt8
  to : List UInt8
  ref : Int
  from_ : Int
  many : Int
  b0 : Bool
  b1 : Bool
  b2 : Bool
  b3 : Bool
  o : Int
  g : Int
  fo : Int
  fg : Int
  fa : Int
  bl : Bool
def CallC.cells (c : CallC) (d : Value) : List Value :=
  [strOf c.do_, .int .i64 c.dir, .int .i64 c.file, strOf c.name, strOf c.to, .int .i64 c.ref, .int .i64 c.from_, .int .i64 c.many, .bool c.b0, .bool c.b1, .bool c.b2, .bool c.b3, .int .i64 c.o, .int .i64 c.g, .int .i64 c.fo, .int .i64 c.fg, .int .i64 c.fa, .bool c.bl, d]
def CallC.numbers (c : CallC) : List Int := [c.dir, c.file, c.ref, c.from_, c.many]
def CallC.modes (c : CallC) : List Bool := [c.b0, c.b1, c.b2, c.b3]
def modeN : List Bool → Nat
  | [] => 0
  | b :: l => (if b then 1 else 0) + 2 * modeN l
def numB (n : Int) : List UInt8 := beB 4 (n + 2147483648).toNat
def CallC.bytes (c : CallC) (l : List UInt8) : List UInt8 :=
  countB c.do_ ++ (c.numbers.map numB).flatten ++ (countB c.name ++ (countB c.to ++ ([UInt8.ofNat (modeN c.modes)] ++ (bytesR c.o c.g c.fo c.fg c.fa c.bl ++ (beB 2 l.length ++ l)))))
def CallC.bad (c : CallC) (l : List UInt8) : Bool := (c.numbers.any fun n => !numberOk n) || decide ((31 : Int) < (c.do_.length : Nat)) || decide ((31 : Int) < (c.name.length : Nat)) || decide ((31 : Int) < (c.to.length : Nat)) || decide ((200 : Int) < (l.length : Nat))
def CallC.ok (c : CallC) (l : List UInt8) : Prop := okR c.o c.g c.fo c.fg c.fa ∧ c.bad l = false
instance (c : CallC) (l : List UInt8) : Decidable (c.ok l) := by unfold CallC.ok; infer_instance
section
variable {E : Env} {f : FuncId} {s : St}
end
end
end Go.Ev
