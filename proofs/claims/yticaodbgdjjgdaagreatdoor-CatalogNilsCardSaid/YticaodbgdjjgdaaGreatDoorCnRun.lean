/-
  The law's own code, run: true, whatever it is asked.
-/
import Derived.Test.YticaodbgdjjgdaaGreatDoorChecked
import Derived.Test.YticaodbgdjjgdaaGreatDoorEvSplit
import Derived.Test.YticaodbgdjjgdaaGreatDoorEvExtern2
set_option linter.unusedVariables false
namespace Go.Proofs.YticaodbgdjjgdaaGreatDoor
open Go Go.Ev
noncomputable section
def prims0 : List (FuncId × Prim) := [(87, pCompare), (145, pIndexByteString), (117, pInsert (tag 63 1) 24)]
theorem awake_run : saysTrue (callF (envOf Tryz.prog prims0) (runC (envOf Tryz.prog prims0) 20000) 4 [] (bare 3)) = true := by kernel_rfl
def prims : List (FuncId × Prim) := [(4, pTrue)]
abbrev E : Env := envOf Tryz.prog prims
def fn : CFunc := (E.code 3).getD default
abbrev head : CCode := fn.body.snd.fst
def args (m n : Int) (t : ByteArray) : List Value := [.int .i64 m, .int .i64 n, .string t]
/-- Behind the first row. -/
def r1 (m n : Int) (t : ByteArray) : RCL := runC E 19999 fn.body.fst (Tr.ofList .e 0 (args m n t)) (bare 3)
/-- Behind the question. -/
def r2 (m n : Int) (t : ByteArray) : RCL := runC E 19997 head.fst (theFr (r1 m n t)) (theSt (r1 m n t))
def long (m n : Int) (t : ByteArray) : Bool := (Ev.asBool (head.snd.test.ev (theFr (r2 m n t)))).getD false
theorem run_long (m n : Int) (t : ByteArray) : saysTrue (ob (ended fn (kSeq (runC E 19998) fn.body.snd.snd (runC E 19996 head.snd.yes (theFr (r2 m n t)) (theSt (r2 m n t))))) fun l => some (mergeL (bare 3).next l)) = true := by kernel_rfl
theorem run_empty (m n : Int) : saysTrue (ob (ended fn (kSeq (runC E 19998) fn.body.snd.snd (runC E 19996 head.snd.not (theFr (r2 m n ⟨⟨[]⟩⟩)) (theSt (r2 m n ⟨⟨[]⟩⟩))))) fun l => some (mergeL (bare 3).next l)) = true := by kernel_rfl
theorem run_named (m n : Int) (x : UInt8) (l : List UInt8) : saysTrue (ob (ended fn (kSeq (runC E 19998) fn.body.snd.snd (runC E 19996 head.snd.not (theFr (r2 m n ⟨⟨x :: l⟩⟩)) (theSt (r2 m n ⟨⟨x :: l⟩⟩))))) fun l => some (mergeL (bare 3).next l)) = true := by kernel_rfl
theorem run_short (m n : Int) (t : ByteArray) : saysTrue (ob (ended fn (kSeq (runC E 19998) fn.body.snd.snd (runC E 19996 head.snd.not (theFr (r2 m n t)) (theSt (r2 m n t))))) fun l => some (mergeL (bare 3).next l)) = true := by
  obtain ⟨⟨l⟩⟩ := t
  cases l with
  | nil => exact run_empty m n
  | cons x l => exact run_named m n x l
theorem code3 : E.code 3 = some fn := by kernel_rfl
theorem body3 : fn.body = .seq fn.body.fst (.seq (.seq head.fst (.cond head.snd.test head.snd.yes head.snd.not)) fn.body.snd.snd) := by kernel_rfl
theorem at1 (m n : Int) (t : ByteArray) : runC E 19999 fn.body.fst (Tr.ofList .e 0 (args m n t)) (bare 3) = some [(.normal, theFr (r1 m n t), theSt (r1 m n t))] := by kernel_rfl
theorem at2 (m n : Int) (t : ByteArray) : runC E 19997 head.fst (theFr (r1 m n t)) (theSt (r1 m n t)) = some [(.normal, theFr (r2 m n t), theSt (r2 m n t))] := by kernel_rfl
theorem at3 (m n : Int) (t : ByteArray) : Ev.asBool (head.snd.test.ev (theFr (r2 m n t))) = some (long m n t) := by kernel_rfl
theorem catalogNils_run (m n : Int) (t : ByteArray) : saysTrue (callC E (runC E 20000) 3 (args m n t) (bare 3)) = true :=
  says_if (M := 19996) code3 body3 (at1 m n t) (at2 m n t) (at3 m n t) fun b => by
    cases b with
    | true => exact run_long m n t
    | false => exact run_short m n t
end
end Go.Proofs.YticaodbgdjjgdaaGreatDoor
