/-
  One operation in its place: a call too.
-/
import Derived.Test.YticaodbgdjjgdaaGreatDoorEvOps3
import Derived.Calls
import Derived.Scope
set_option linter.unusedVariables false
set_option linter.unusedSimpArgs false
namespace Go.Ev
open Go (Sem)

/-- A call of the model, with what holds behind it. -/
def CallDo (P : Program) (f : FuncId) (args : Array Value) (w : World) (R : Value → World → Prop) : Prop :=
  (∃ v w', (callFunc f args).run P w = .ok (.value v) w' ∧ R v w') ∨
  ((callFunc f args).run P w = .ok (.enter f args) w ∧ Calls P f args w fun | .returned v, w' => R v w' | _, _ => False)

abbrev none_ : Nat → Prop := fun _ => False
/-- The machine's calls stand for the model's. -/
def GoodCall (P : Program) (call : Caller) : Prop :=
  ∀ (ι : Inj) (base : Nat) (s : St) (w : World) (f : FuncId) (args args' : List Value) (v : Value) (s' : St), Globs P ι → Rel ι base s w → LR ι args args' → call f args s = some (v, s') →
    CallDo P f ⟨args'⟩ w fun v' w' => ∃ κ, Ext none_ ι base s w κ s' w' ∧ VR κ v v'

/-- What an operation of a region does. -/
def DoesOp (P : Program) (S : Nat → Prop) (ι : Inj) (base : Nat) (s : St) (w : World) (o : Oper) (a : Act) (v : Value) (s' : St) : Prop :=
  ∀ (next : Act → World → Prop) (Q : Exit → Act → World → Prop), (∀ κ v' w', Ext S ι base s w κ s' w' → VR κ v v' → next (a.put o.dst v') w') → o.wp P a w next Q
/-- What an operation that looks, and turns nothing, does. -/
def Looks (P : Program) (ι : Inj) (w : World) (o : Oper) (a : Act) (v : Value) : Prop :=
  ∃ v', VR ι v v' ∧ ∀ (next : Act → World → Prop) (Q : Exit → Act → World → Prop), next (a.put o.dst v') w → o.wp P a w next Q

section
variable {P : Program} {ι : Inj} {w : World} {base : Nat} {s : St} {o : Oper} {a : Act} {fr : Fr} {id : Nat} {v : Value} {s' : St} {c : Cop}

theorem Does.op {S : Nat → Prop} (h : Does P S ι base s w (execOp a.eval o) v s') : DoesOp P S ι base s w o a v s' := by
  intro next Q hn
  obtain ⟨κ, nx, w', h1, h2, h3⟩ := h
  unfold Oper.wp
  rw [h1]
  rcases h3 with ⟨v', rfl, hv⟩ | ⟨rfl, rfl⟩
  · exact hn κ v' w' h2 hv
  · exact hn κ _ w' h2 .undef
theorem Ok.looks (h : Ok P ι w (execOp a.eval o) v) : Looks P ι w o a v := by
  obtain ⟨v', h1, h2⟩ := h
  refine ⟨v', h2, fun next Q hn => ?_⟩
  unfold Oper.wp
  rw [h1]
  exact hn

theorem CallDo.upon {f : FuncId} {args : Array Value} {R : Value → World → Prop} (h : CallDo P f args w R) (next : Act → World → Prop) (Q : Exit → Act → World → Prop) (hn : ∀ v w', R v w' → next (a.put o.dst v) w') :
    o.upon P a next Q ((callFunc f args).run P w) := by
  rcases h with ⟨v, w', h1, h2⟩ | ⟨h1, h2⟩
  · rw [h1]; exact hn v w' h2
  · rw [h1]
    refine Calls.mono h2 fun e w'' he => ?_
    cases e with
    | returned v => exact hn v w'' he
    | panicked _ => exact he.elim
    | outgrown => exact he.elim

theorem LR.array {l : List Value} {xs : Array Operand} (h : LR ι l (xs.toList.map a.eval)) : LR ι l (xs.map a.eval).toList := by
  rw [Array.toList_map]; exact h

/-- A call in a region. -/
theorem call_ok {call : Caller} (hcall : GoodCall P call) {round : Rounder} (hr : rOp P o.op = some c) (hc : isValueCall o.op = true) (hv : Ops ι o a fr) (hg : Globs P ι) (r : Rel ι base s w) (hround : ∀ l args s v s', ∀ ι' w', Rel ι' base s w' → round l args s = some (v, s') → False)
    (h : (oneOp c).run call round fr s id = some (v, s')) (S : Nat → Prop) : DoesOp P S ι base s w o a v s' := by
  cases ho : o.op with
  | call cl =>
    cases hcl : cl.callee with
    | builtin b =>
      rw [ho] at hc
      unfold isValueCall at hc
      simp only [hcl] at hc
      cases hc
    | value f =>
      have h1 : ∀ x ∈ cl.args.toList, VR ι ((rArg x).ev fr) (a.eval x) := fun x hx => hv x (by
        rw [ho]; simp only [Op.operands, Call.operands, hcl]; simp [hx] <;> first | exact .inr (by simpa using hx) | exact .inl (by simpa using hx))
      have h2 : VR ι ((rArg f).ev fr) (a.eval f) := hv f (by rw [ho]; simp [Op.operands, Call.operands, hcl])
      have hl := lr_ops h1
      have hexec : (execOp a.eval o).run P w = (do let d ← Deferred.ofValue (a.eval f) (cl.args.map a.eval); invoke d.target d.args : Sem Next).run P w := by
        simp only [execOp, ho, resolve, hcl]
      intro next Q hn
      unfold Oper.wp
      rw [hexec]
      have fin : ∀ (g : FuncId) (args args' : List Value), LR ι args args' → call g args s = some (v, s') → o.upon P a next Q ((callFunc g ⟨args'⟩).run P w) := by
        intro g args args' hla hcg
        refine (hcall ι base s w g args args' v s' hg r hla hcg).upon next Q ?_
        intro v' w' ⟨κ, e1, e2⟩
        exact hn κ v' w' (e1.mono fun _ h => h.elim) e2
      rw [ho] at hr
      unfold rOp at hr
      simp only [hcl] at hr
      split at hr
      · -- a function by its name
        rename_i g hcl2
        cases hcl2
        cases hr
        have h : call g (evL fr (cl.args.toList.map rArg)) s = some (v, s') := h
        have := fin g _ _ hl h
        have e1 : (⟨cl.args.toList.map a.eval⟩ : Array Value) = cl.args.map a.eval := by apply Array.ext'; simp
        rw [e1] at this
        simpa [Deferred.ofValue, Act.eval, invoke, Result.andThen] using this
      · -- a value
        rename_i f1 _ hcl2
        cases hcl2
        cases hr
        have h : callV call round ((rArg f).ev fr) (evL fr (cl.args.toList.map rArg)) s = some (v, s') := h
        obtain ⟨⟨fn, first, capt⟩, hf, h⟩ := ob_eq.1 h
        rw [asFunc_eq hf] at h2
        cases fn with
        | func g =>
          simp only at h2
          have h : call g (appL first (appL (evL fr (cl.args.toList.map rArg)) capt)) s = some (v, s') := h
          rw [appL_eq, appL_eq] at h
          generalize hF : a.eval f = F at h2
          cases h2 with
          | func hfn ha hav hcc hcv =>
            cases hfn
            have := fin g _ _ ((LR.of ha hav).append (hl.append (LR.of hcc hcv))) h
            have e1 : ∀ (x y : List Value), (⟨x ++ (cl.args.toList.map a.eval ++ y)⟩ : Array Value) = (⟨x⟩ ++ cl.args.map a.eval) ++ ⟨y⟩ := by intro x y; apply Array.ext'; simp
            rw [e1] at this
            simpa [Deferred.ofValue, invoke, Result.andThen] using this
        | yield l =>
          obtain ⟨l', _, h⟩ := ob_eq.1 (show ob (fnYield (.yield l)) (fun l => round l (evL fr (cl.args.toList.map rArg)) s) = some (v, s') from h)
          exact (hround _ _ _ _ _ _ _ r h).elim
        | _ => cases h
      · cases hr
      · rename_i hh; cases hh
    | invoke x m =>
      rw [ho] at hr
      unfold rOp at hr
      simp only [hcl] at hr
      cases hr
  | _ =>
    rw [ho] at hc
    cases hc
end
end Go.Ev
