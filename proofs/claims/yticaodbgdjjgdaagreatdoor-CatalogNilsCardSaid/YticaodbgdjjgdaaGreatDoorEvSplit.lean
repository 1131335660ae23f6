/-
  A function that first asks something of its arguments ('if .. { return .. }'): its run is what it is either way.
-/
import Derived.Test.YticaodbgdjjgdaaGreatDoorEvRow
set_option linter.unusedVariables false
set_option linter.unusedSimpArgs false
namespace Go.Ev
noncomputable section
def CCode.fst (c : CCode) : CCode := match c with | .seq a _ => a | _ => .no
def CCode.snd (c : CCode) : CCode := match c with | .seq _ b => b | _ => .no
def CCode.yes (c : CCode) : CCode := match c with | .cond _ a _ => a | _ => .no
def CCode.not (c : CCode) : CCode := match c with | .cond _ _ b => b | _ => .no
def CCode.test (c : CCode) : Arg := match c with | .cond c _ _ => c | _ => .c undef
def theFr (r : RCL) : Fr := Option.rec .e (fun l => List.rec .e (fun x _ _ => x.2.1) l) r
def theSt (r : RCL) : St := Option.rec (bare 0) (fun l => List.rec (bare 0) (fun x _ _ => x.2.2) l) r
/-- The code and what is behind it: 'A; if c { X } else { Y }; rest', c made by R. -/
theorem runC_if {E : Env} {M : Nat} {A R X Y Rest : CCode} {c : Arg} {fr fr1 fr2 : Fr} {s s1 s2 : St} {b : Bool}
    (h1 : runC E (M + 3) A fr s = some [(.normal, fr1, s1)]) (h2 : runC E (M + 1) R fr1 s1 = some [(.normal, fr2, s2)]) (h3 : asBool (c.ev fr2) = some b) :
    runC E (M + 4) (.seq A (.seq (.seq R (.cond c X Y)) Rest)) fr s = kSeq (runC E (M + 2)) Rest (cnd b (runC E M X fr2 s2) (runC E M Y fr2 s2)) := by
  have e1 : runC E (M + 4) (.seq A (.seq (.seq R (.cond c X Y)) Rest)) fr s = kSeq (runC E (M + 3)) (.seq (.seq R (.cond c X Y)) Rest) (runC E (M + 3) A fr s) := rfl
  rw [e1, h1]
  show runC E (M + 3) (.seq (.seq R (.cond c X Y)) Rest) fr1 s1 = _
  show kSeq (runC E (M + 2)) Rest (runC E (M + 2) (.seq R (.cond c X Y)) fr1 s1) = _
  have e2 : runC E (M + 2) (.seq R (.cond c X Y)) fr1 s1 = kSeq (runC E (M + 1)) (.cond c X Y) (runC E (M + 1) R fr1 s1) := rfl
  rw [e2, h2]
  show kSeq (runC E (M + 2)) Rest (runC E (M + 1) (.cond c X Y) fr2 s2) = _
  have e3 : runC E (M + 1) (.cond c X Y) fr2 s2 = ob (asBool (c.ev fr2)) fun x => cnd x (runC E M X fr2 s2) (runC E M Y fr2 s2) := rfl
  rw [e3, h3]
  rfl
theorem says_if {E : Env} {M : Nat} {f : FuncId} {fn : CFunc} {args : List Value} {s : St} {A R X Y Rest : CCode} {c : Arg} {fr1 fr2 : Fr} {s1 s2 : St} {b : Bool} (hc : E.code f = some fn) (hb : fn.body = .seq A (.seq (.seq R (.cond c X Y)) Rest))
    (h1 : runC E (M + 3) A (Tr.ofList .e 0 args) s = some [(.normal, fr1, s1)]) (h2 : runC E (M + 1) R fr1 s1 = some [(.normal, fr2, s2)]) (h3 : asBool (c.ev fr2) = some b)
    (hall : ∀ b, saysTrue (ob (ended fn (kSeq (runC E (M + 2)) Rest (cnd b (runC E M X fr2 s2) (runC E M Y fr2 s2)))) fun l => some (mergeL s.next l)) = true) : saysTrue (callC E (runC E (M + 4)) f args s) = true := by
  have e : callC E (runC E (M + 4)) f args s = ob (E.code f) fun fn => ob (ended fn (runC E (M + 4) fn.body (Tr.ofList .e 0 args) s)) fun l => some (mergeL s.next l) := rfl
  rw [e, hc]
  show saysTrue (ob (ended fn (runC E (M + 4) fn.body (Tr.ofList .e 0 args) s)) fun l => some (mergeL s.next l)) = true
  rw [hb, runC_if h1 h2 h3]
  exact hall b

/-- What a call of its own has done below does not matter here. -/
theorem Ext.ofBelow {S : Nat → Prop} {ι : Inj} {base : Nat} {s : St} {w w' : World} (r : Rel ι base s w) (b : Go.RowKit.Below w.heap.size w w') : Ext S ι base s w ι s w' := by
  refine ⟨Inj.le_refl _, ⟨?_, r.sep, r.own, r.next, fun a B h => Nat.lt_of_lt_of_le (r.blk a B h) b.size, Nat.le_trans r.base_le b.size⟩, Nat.le_refl _, fun _ _ _ h1 => ⟨h1, id⟩, fun k hk _ => b.block k hk, fun a o B h1 h2 h3 _ => ⟨a, o, B, h1, h2, id, h3, rfl⟩, b.size, b.os, b.tape, b.output⟩
  intro a o h hl
  obtain ⟨B, h1, h2⟩ := r.ob a o h hl
  exact ⟨B, h1, h2.block (b.block _ (r.blk a B h1))⟩
/-- A function that the machine runs to true, knowing nothing, does so wherever it is called. -/
theorem isPrim_true {P : Program} {E : Env} (hE : EnvOk P E) (hm : P.follows .mixedOrders = true) (hname : namedB P = true) {n : Nat} {f : FuncId} (h : saysTrue (callF E (runC E n) f [] (bare P.globals.size)) = true) : IsPrim P f pTrue := by
  intro ι base s w args args' v s' hg r ha hp
  cases args with
  | cons x l => cases hp
  | nil =>
    cases hp
    cases ha
    obtain ⟨l, h1, hall⟩ := saysTrue_eq h
    have hsz : P.globals.size ≤ w.heap.size := by
      rcases Nat.eq_zero_or_pos P.globals.size with h0 | h0
      · omega
      obtain ⟨B, h1, h2, _⟩ := hg (P.globals.size - 1) (by omega)
      have := r.blk _ B h1
      omega
    refine (callF_good hE (code_ok hE (draw_good hm) map_good (named_of hname) n) (named_of hname) _ _ _ _ f [] [] l (glob_globs P) (bare_rel hsz) .nil h1).mono fun v' w' he => ?_
    obtain ⟨out, hmem, κ, e1, e2⟩ := he
    rw [hall _ hmem] at e2
    exact ⟨ι, Ext.ofBelow r (e1.below (bare_rel hsz)), by rw [e2.boolE]; exact .bool _⟩
end
end Go.Ev
