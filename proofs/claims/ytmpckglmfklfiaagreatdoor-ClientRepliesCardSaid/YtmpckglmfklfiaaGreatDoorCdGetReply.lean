/-
  A reply out of its bytes, the program's side.
-/
import Derived.Test.YtmpckglmfklfiaaGreatDoorCdGetCall
set_option linter.unusedVariables false
set_option linter.unusedSimpArgs false
namespace Go.Ev
noncomputable section
structure ItemC where
  id : Int
  parent : Int
  name : List UInt8
  dir : Bool
def ItemC.cells (i : ItemC) : List Value := [.int .i64 i.id, .int .i64 i.parent, strOf i.name, .bool i.dir]
def itemsC (l : List ItemC) : List Value := (l.map ItemC.cells).flatten
theorem itemsC_length : ∀ l : List ItemC, (itemsC l).length = l.length * 4
  | [] => rfl
  | i :: l => by
    show (i.cells ++ itemsC l).length = _
    rw [List.length_append, itemsC_length l, List.length_cons, Nat.add_mul, Nat.add_comm]; rfl
structure ReplyC where
  err : Int
  n : Int
  text : List UInt8
def ReplyC.cells (r : ReplyC) (w u : Value) : List Value := [.int .i64 r.err, .int .i64 r.n, strOf r.text, w, u]
def it1 (l : List UInt8) (x : Nat × Int) := fxP l 4 x
def it2 (l : List UInt8) (x : Nat × Int) := fxP l 4 (it1 l x).2
def it3 (l : List UInt8) (x : Nat × Int) := msP l 1 (it2 l x).2
def it4 (l : List UInt8) (x : Nat × Int) := txP l (it3 l x).2
def itV (l : List UInt8) (x : Nat × Int) : ItemC := ⟨((it1 l x).1 : Nat), ((it2 l x).1 : Nat), (it4 l x).1, decide ((it3 l x).1 = 1)⟩
def itsP (l : List UInt8) : Nat → Nat × Int → List ItemC × (Nat × Int)
  | 0, x => ([], x)
  | n + 1, x => if x.2 = 0 then (itV l x :: (itsP l n (it4 l x).2).1, (itsP l n (it4 l x).2).2) else ([], x)
section
variable {E : Env} {f : FuncId} {s t : St} {hi a c d : Nat} {v w : Value} {l : List UInt8} {x : Nat × Int}
structure ItL (s0 : St) (hi a c d L L0 n : Nat) (v w : Value) (l dt : List UInt8) (y : ReplyC) (x0 : Nat × Int) (zs : List Value) (i : Nat) (x : Nat × Int) (acc : List ItemC) (u : Value) (fr : Fr) (s : St) : Prop where
  le : i ≤ n
  num : acc.length ≤ i
  so : itsP l n x0 = (acc ++ (itsP l (n - i) x).1, (itsP l (n - i) x).2)
  g : Gt s0 4 5 2 hi a c d v l zs fr s x (y.cells w u)
  f7 : fr.get 7 = some (.int .i64 (i : Nat))
  f6 : fr.get 6 = some (.int .i64 (n : Nat))
  u4 : Gr s L 4 u (itemsC acc)
  w1 : Mid s L0 L 1 w (dt.map ofByte)
  hL : L ≤ s.next
  aL : a < L0
  cL : c < L0
  dL : d < L0
  L0L : L0 ≤ L
  sL : s0.next ≤ L
end
end
end Go.Ev
