/-
  From a run of the machine to a law's call.
-/
import Derived.Test.YticaodbgdjjgdaaGreatDoorEvExtern
set_option linter.unusedVariables false
set_option linter.unusedSimpArgs false
namespace Go.Ev
open Go (Sem)
noncomputable section

/-- What is known at once, by the function's number. -/
def primIn (l : List (FuncId × Prim)) (f : FuncId) : Option Prim := List.rec none (fun p _ go => cnd (Nat.beq p.1 f) (some p.2) go) l
theorem primIn_mem {l : List (FuncId × Prim)} {f : FuncId} {p : Prim} (h : primIn l f = some p) : (f, p) ∈ l := by
  induction l with
  | nil => cases h
  | cons x l ih =>
    have h : cnd (Nat.beq x.1 f) (some x.2) (primIn l f) = some p := h
    rw [cnd_eq] at h
    split at h
    · rename_i hh
      rw [Nat.beq_eq] at hh
      cases h
      subst hh
      simp
    · exact List.mem_cons_of_mem _ (ih h)

/-- The program as it stands, with what is known at once. -/
def envOf (P : Program) (l : List (FuncId × Prim)) : Env := ⟨rFunc P, primIn l⟩
theorem envOf_ok {P : Program} {l : List (FuncId × Prim)} (h : ∀ x ∈ l, IsPrim P x.1 x.2) : EnvOk P (envOf P l) :=
  ⟨fun f fn h => h, fun f p hp => h (f, p) (primIn_mem hp)⟩

def namedB (P : Program) : Bool := P.funcs.toList.all fun fn => fn.body.isNone || fn.name != "runtime.NumGoroutine"
theorem named_of {P : Program} (h : namedB P = true) : Named P := by
  intro f fn hf hb hn
  have := List.all_eq_true.1 h fn (by rw [List.mem_iff_getElem?]; exact ⟨f, by rw [Array.getElem?_toList]; exact hf⟩)
  rw [Bool.or_eq_true] at this
  rcases this with h | h
  · rw [Option.isNone_iff_eq_none] at h; rw [h] at hb; cases hb
  · rw [hn] at h; exact absurd h (by decide)

/-- Did it return true? -/
def vTrue (v : Value) : Bool := Value.rec (motive_1 := fun _ => Bool) (motive_2 := fun _ => PUnit) (motive_3 := fun _ => PUnit) (fun b => b) (fun _ _ => false) (fun _ _ => false) (fun _ _ _ => false) (fun _ => false) (fun _ => false) (fun _ _ _ => false) (fun _ => false) (fun _ => false) (fun _ _ _ _ _ => false) false (fun _ _ _ => false) false (fun _ _ => false) (fun _ _ => false) (fun _ _ => ⟨⟩) ⟨⟩ (fun _ _ _ _ => ⟨⟩) v
def saysTrue (r : RL) : Bool := Option.rec false (fun l => List.rec true (fun x _ go => cnd (vTrue x.1) go false) l) r
theorem saysTrue_eq {r : RL} (h : saysTrue r = true) : ∃ l, r = some l ∧ ∀ x ∈ l, x.1 = .bool true := by
  cases r with
  | none => cases h
  | some l =>
    refine ⟨l, rfl, ?_⟩
    induction l with
    | nil => simp
    | cons x l ih =>
      have h : cnd (vTrue x.1) (saysTrue (some l)) false = true := h
      rw [cnd_eq] at h
      split at h
      · rename_i hx
        intro y hy
        rcases List.mem_cons.1 hy with rfl | hy
        · obtain ⟨v, s'⟩ := y
          have hx : vTrue v = true := hx
          show v = .bool true
          cases v with
          | bool b =>
            cases b with
            | true => rfl
            | false => cases hx
          | _ => cases hx
        · exact ih h y hy
      · cases h

/-- A call that the machine runs to true. -/
theorem calls_true {P : Program} {E : Env} (hE : EnvOk P E) (hm : P.follows .mixedOrders = true) (hname : namedB P = true) {n : Nat} {f : FuncId} {args args' : List Value} {ι : Inj} {base : Nat} {s : St} {w : World}
    (hg : Globs P ι) (r : Rel ι base s w) (ha : LR ι args args') (h : saysTrue (callC E (runC E n) f args s) = true) :
    Calls P f ⟨args'⟩ w fun e w' => e = .returned (.bool true) ∧ Go.RowKit.Below base w w' := by
  obtain ⟨l, h1, hall⟩ := saysTrue_eq h
  obtain ⟨fn, hfn, h2⟩ := ob_eq.1 h1
  obtain ⟨l0, h3, h4⟩ := ob_eq.1 h2
  cases h4
  obtain ⟨h5, _⟩ := body_goes (code_ok hE (draw_good hm) map_good (named_of hname) n) (hE.code f fn hfn) hg r ha h3
  refine h5.mono fun e w' he => ?_
  cases e with
  | returned v =>
    obtain ⟨out, hmem, κ, e1, e2⟩ := he
    obtain ⟨out2, hmem2, κ2, e3, e4⟩ := merge_ok hmem e1 e2
    rw [hall _ hmem2] at e4
    exact ⟨by rw [e4.boolE], e3.below r⟩
  | _ => exact he.elim

/-- Each package-level variable stands in its own block. -/
def globInj (n : Nat) : Inj := fun a => if a < n then some ⟨a, 0, 0, 0⟩ else none
theorem glob_globs (P : Program) : Globs P (globInj P.globals.size) := fun g hg => ⟨_, if_pos hg, rfl, rfl⟩
/-- A state in which nothing is known. -/
def bare (n : Nat) : St := ⟨.e, n⟩
theorem bare_rel {P : Program} {w : World} (h : P.globals.size ≤ w.heap.size) : Rel (globInj P.globals.size) w.heap.size (bare P.globals.size) w := by
  have hn : ∀ a, (bare P.globals.size).get a = none := fun a => Tr.get_e a
  refine ⟨fun a o h => ?_, fun a a' o o' B B' h => ?_, fun a o B h => ?_, fun a ha => ⟨hn a, if_neg (Nat.not_lt.2 ha)⟩, fun a B h => ?_, Nat.le_refl _⟩
  · rw [hn a] at h; cases h
  · rw [hn a] at h; cases h
  · rw [hn a] at h; cases h
  unfold globInj at h
  split at h
  · cases h; simp only; omega
  · cases h

/-- In a world of the program's shape the variables' blocks are there. -/
def globsB (P : Program) : Bool := (List.range P.globals.size).all fun g => (((begin P (fun _ _ => 0) default).world.heap[g]?).bind Obj.row?).isSome
theorem globs_size {P : Program} {w : World} (hb : globsB P = true) (h : w.ShapedOpen P) : P.globals.size ≤ w.heap.size := by
  rcases Nat.eq_zero_or_pos P.globals.size with h0 | h0
  · omega
  have := List.all_eq_true.1 hb (P.globals.size - 1) (List.mem_range.2 (by omega))
  cases e : ((begin P (fun _ _ => 0) default).world.heap[P.globals.size - 1]?).bind Obj.row? with
  | none => rw [e] at this; cases this
  | some zt =>
    obtain ⟨cs, h1, _⟩ := h.1 (P.globals.size - 1) zt.1 zt.2 (by omega) e
    have := (Array.getElem?_eq_some_iff.1 h1).1
    omega
end
end Go.Ev
