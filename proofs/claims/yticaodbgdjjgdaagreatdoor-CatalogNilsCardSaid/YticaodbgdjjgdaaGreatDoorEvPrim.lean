/-
  What functions without a body, and some of the library's, do at once.
-/
import Derived.Test.YticaodbgdjjgdaaGreatDoorEvSem
set_option linter.unusedVariables false
set_option linter.unusedSimpArgs false
namespace Go.Ev
noncomputable section

def findByte (c : Nat) (l : List UInt8) : Nat → Int :=
  List.rec (motive := fun _ => Nat → Int) (fun _ => -1) (fun x _ go i => cnd (Nat.beq x.toNat c) (Int.ofNat i) (go (Nat.succ i))) l
def isPre (x : List UInt8) : List UInt8 → Bool :=
  List.rec (motive := fun _ => List UInt8 → Bool) (fun _ => true) (fun a _ go y => List.casesOn y false (fun b y => cnd (Nat.beq a.toNat b.toNat) (go y) false)) x
def findSub (n : List UInt8) (l : List UInt8) : Nat → Int :=
  List.rec (motive := fun _ => Nat → Int) (fun i => cnd (isPre n []) (Int.ofNat i) (-1)) (fun x r go i => cnd (isPre n (x :: r)) (Int.ofNat i) (go (Nat.succ i))) l
def countByte (c : Nat) (l : List UInt8) : Nat → Int :=
  List.rec (motive := fun _ => Nat → Int) (fun i => Int.ofNat i) (fun x _ go i => go (cnd (Nat.beq x.toNat c) (Nat.succ i) i)) l

abbrev Prim := List Value → St → R
def args1 (f : Value → St → R) : Prim := fun l s => List.casesOn l none (fun x r => List.casesOn r (f x s) (fun _ _ => none))
def args2 (f : Value → Value → St → R) : Prim := fun l s => List.casesOn l none (fun x r => args1 (f x) r s)

def pIndexByteString : Prim := args2 fun b c s => ob (asStr b) fun b => ob (asInt c) fun k => must (kEq k.1 .u8) (ob (asNat c) fun c => must (Nat.blt c 256) (some (num (findByte c b 0), s)))
def pCountString : Prim := args2 fun b c s => ob (asStr b) fun b => om (asNat c) fun c => (num (countByte c b 0), s)
def pIndexString : Prim := args2 fun a b s => ob (asStr a) fun a => ob (asStr b) fun b =>
  must (Nat.ble 2 (lenL b)) (must (Nat.ble (lenL b) 63) (some (num (findSub b a 0), s)))
def pCompare : Prim := args2 fun x y s => ob (lenOf x) fun n => ob (lenOf y) fun m => ob (s.elems 1 x n) fun a => ob (s.elems 1 y m) fun b =>
  ob (optL toByte a) fun a => ob (optL toByte b) fun b => some (num (cnd (bytesLt a b) (-1) (cnd (bytesLt b a) 1 0)), s)
def pMapsClone : Prim := args1 fun m s => ob (asMap m) fun r => Option.rec (some (.map none, s))
  (fun r => om (asEnts (s.get r)) fun e => (.map (some s.next), (s.set s.next (.map e.1 e.2)).bump 1)) r
/-- New bytes, whatever they are. -/
def pMakeNoZero (T : Nat) : Prim := args1 fun n s => ob (asInt n) fun k => must (kEq k.1 .i64) <| ob (asNat n) fun n => must (Nat.ble n room)
  (some (.slice (some ⟨s.next, 0, none⟩) n open_, (s.set s.next (.cells [] (tag T 1) .gr)).bump 1))
def Md.isEx (m : Md) : Bool := Md.rec false true false false false m
def Md.isGr (m : Md) : Bool := Md.rec false false false true false m
/-- New elements of one cell, put in front of others of an open row whose end is known. -/
def insertMid (s : St) (tg : Nat) (a : Addr) (n k m : Nat) (new : List Value) : R :=
  ob (asCells (s.get a.block)) fun c => must (Nat.beq (a.off + n) (lenL c.1)) (must c.2.2.isGr (must (Nat.beq (esz c.2.1) 1)
    (some (sl s.next (n + m), (s.set a.block .dead).made (appL (takeL k (dropL a.off c.1)) (appL new (dropL k (dropL a.off c.1)))) (cnd (Nat.beq c.2.1 tg) c.2.1 1) .gr))))
def insertAt (tg bytes : Nat) (s : St) (x : Value) (p q : Option Addr × Nat × Nat) (k : Nat) (b : Addr) (new : List Value) : R :=
  cnd (Nat.beq k p.2.1) (appendNew tg 1 bytes s x q.2.1 new)
    (must (Nat.blt k p.2.1) (must (Nat.beq p.2.2 open_) (ob p.1 fun a => must (!Nat.beq a.block b.block) (insertMid s tg a p.2.1 k q.2.1 new))))
/-- slices.Insert where an element is one cell. -/
def pInsert (tg bytes : Nat) : Prim := fun l s => List.casesOn l none fun x l => args2 (fun i y s => ob (asSl x) fun p => ob (asInt i) fun j => must (kEq j.1 .i64) (ob (asNat i) fun k => ob (asSl y) fun q => ob q.1 fun b =>
  must (Nat.ble 1 q.2.1) (must (!Nat.beq q.2.2 open_) (ob (asCells (s.get b.block)) fun d => must d.2.2.isEx (ob (s.row b q.2.1) fun new => must (Nat.ble ((p.2.1 + q.2.1) * bytes) room) (insertAt tg bytes s x p q k b new)))))) l s
/-- A function that asks for nothing, and answers true. -/
def pTrue : Prim := fun l s => List.casesOn l (some (.bool true, s)) (fun _ _ => none)
def pSame : Prim := args1 fun x s => some (x, s)
end
end Go.Ev
