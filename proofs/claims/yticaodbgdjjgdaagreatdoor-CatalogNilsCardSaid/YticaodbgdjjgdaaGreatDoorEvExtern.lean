/-
  Functions without a body: what they do at once is what the model's entries do.
-/
import Derived.Test.YticaodbgdjjgdaaGreatDoorEvDraw4
import Derived.Test.YticaodbgdjjgdaaGreatDoorEvRange4
import Derived.Test.YticaodbgdjjgdaaGreatDoorEvPrim
import Derived.Lib.MakeNoZero
set_option linter.unusedVariables false
set_option linter.unusedSimpArgs false
namespace Go.Ev
open Go (Sem)

/-- What a function does at once is right. -/
def IsPrim (P : Program) (f : FuncId) (p : Prim) : Prop := ∀ (ι : Inj) (base : Nat) (s : St) (w : World) (args args' : List Value) (v : Value) (s' : St), Globs P ι → Rel ι base s w → LR ι args args' → p args s = some (v, s') →
    CallDo P f ⟨args'⟩ w fun v' w' => ∃ κ, Ext none_ ι base s w κ s' w' ∧ VR κ v v'

/-- A function that the model has an entry for. -/
structure Entry (P : Program) (f : FuncId) (fn : Func) (e : Array Value → Sem Value) : Prop where
  func : P.funcs[f]? = some fn
  body : fn.body.isNone = true
  name : (fn.name == "runtime.NumGoroutine") = false
  next : (Extern.findNext fn).isNone = true
  find : Extern.find fn = some e

section
variable {P : Program} {f : FuncId} {fn : Func} {e : Array Value → Sem Value}

theorem Entry.run (E : Entry P f fn e) {args : Array Value} {w w' : World} {v : Value} (h : (e args).run P w = .ok v w') : (callFunc f args).run P w = .ok (.value v) w' := by
  have hn : Extern.findNext fn = none := Option.isNone_iff_eq_none.1 E.next
  have hb : fn.body = none := Option.isNone_iff_eq_none.1 E.body
  have hnm : ¬ fn.name = "runtime.NumGoroutine" := by simpa using E.name
  simp [callFunc, program, mark, Sem.run, E.func, Result.andThen, hn, E.find, h, hb, hnm]

theorem args1_eq {g : Value → St → R} {l : List Value} {s : St} {r : Value × St} (h : args1 g l s = some r) : ∃ x, l = [x] ∧ g x s = some r := by
  cases l with
  | nil => cases h
  | cons x l => cases l with
    | nil => exact ⟨x, rfl, h⟩
    | cons y l => cases h
theorem args2_eq {g : Value → Value → St → R} {l : List Value} {s : St} {r : Value × St} (h : args2 g l s = some r) : ∃ x y, l = [x, y] ∧ g x y s = some r := by
  cases l with
  | nil => cases h
  | cons x l =>
    obtain ⟨y, rfl, h2⟩ := args1_eq (show args1 (g x) l s = some r from h)
    exact ⟨x, y, rfl, h2⟩
theorem LR.one {ι : Inj} {x : Value} {m : List Value} (h : LR ι [x] m) : ∃ y, m = [y] ∧ VR ι x y := by
  cases h with
  | cons h t => cases t; exact ⟨_, rfl, h⟩
theorem LR.two {ι : Inj} {x y : Value} {m : List Value} (h : LR ι [x, y] m) : ∃ a b, m = [a, b] ∧ VR ι x a ∧ VR ι y b := by
  cases h with
  | cons h t => obtain ⟨b, rfl, h2⟩ := t.one; exact ⟨_, _, rfl, h, h2⟩

theorem isPrim_same (E : Entry P f fn Extern.AbiNoEscape.same) : IsPrim P f pSame := by
  intro ι base s w args args' v s' hg r ha h
  obtain ⟨x, rfl, h⟩ := args1_eq h
  cases h
  obtain ⟨y, rfl, hy⟩ := ha.one
  exact .inl ⟨y, w, E.run rfl, ι, Ext.refl r, hy⟩

theorem isPrim_makeNoZero {ps : Array TypeId} {t T : TypeId} (E : Entry P f fn (Extern.BytealgMakeNoZero.makeNoZero ps #[t])) (ht : P.underlying t = some (.slice T)) : IsPrim P f (pMakeNoZero T) := by
  intro ι base s w args args' v s' hg r ha h
  obtain ⟨x, rfl, h1⟩ := args1_eq h
  obtain ⟨y, rfl, hy⟩ := ha.one
  obtain ⟨p, hp, h2⟩ := ob_eq.1 h1
  obtain ⟨hk, h3⟩ := must_eq.1 h2
  obtain ⟨n, hn, h4⟩ := ob_eq.1 h3
  obtain ⟨hroom, h5⟩ := must_eq.1 h4
  cases h5
  rw [kEq_eq] at hk
  have hk : p.1 = .i64 := by simpa using hk
  obtain ⟨k, hx⟩ := asNat_eq hn
  have hx2 := asInt_eq hp
  rw [hx] at hx2
  simp only [Value.int.injEq] at hx2
  rw [hx, hx2.1, hk] at hy
  rw [hy.intE]
  rw [Nat.ble_eq] at hroom
  have hro : room = 140737488355328 := rfl
  obtain ⟨cs, g1, g2, _⟩ := Lib.run_makeNoZero (P := P) w ps t T ht n (by omega)
  refine .inl ⟨_, _, E.run g1, ?_⟩
  obtain ⟨n1, n2⟩ := r.next s.next (Nat.le_refl _)
  have hd : Ext none_ ι base s w ι s { w with drawn := w.drawn + 1 + 1 } := Ext.drew r _
  have hr1 := (Ext.bump (S := none_) hd.rel 1).rel
  have key := Ext.new (w' := w.drew.drew.alloc (.cells cs T)) hr1 s.next (.cells [] (tag T 1) .gr) (.cells cs T) cs.size 1 (by simp) n1 n2 rfl rfl rfl rfl rfl (by
    refine ⟨cs, T, (0, 0), heap_push_get _ _, ⟨rfl, Nat.zero_le _, fun i x hx => by simp at hx, freeFrom_of (Nat.zero_le _)⟩, ⟨fun _ => ⟨(esz_tag (T := T) (size := 1) (by decide)).symm, by rw [esz_tag (T := T) (size := 1) (by decide)]; decide⟩, .inr ⟨ety_tag (by decide), fun _ => Nat.zero_le _, fun _ => Nat.zero_le _⟩⟩⟩)
  refine ⟨_, hd.trans (Ext.atNext key), ?_⟩
  refine .slO (B := ⟨w.heap.size, 0, cs.size, 1⟩) (Inj.put_same _ _ _) rfl rfl ?_ g2
  simp
end
end Go.Ev
