/-
  What classes of operations do to the machine's state.
-/
import Derived.Test.YticaodbgdjjgdaaGreatDoorEvCode
set_option linter.unusedVariables false
set_option linter.unusedSimpArgs false
namespace Go.Ev

section
variable {α β γ : Type}
theorem om_ob (x : Option α) (f : α → Option β) (g : β → γ) : om (ob x f) g = ob x fun a => om (f a) g := by cases x <;> rfl
theorem om_om (x : Option α) (f : α → β) (g : β → γ) : om (om x f) g = om x fun a => g (f a) := by cases x <;> rfl
theorem om_must (b : Bool) (x : Option α) (g : α → β) : om (must b x) g = must b (om x g) := by cases b <;> rfl
theorem om_back (s : St) (x : Option Value) (g : Value × St → β) : om (back s x) g = om x fun v => g (v, s) := by cases x <;> rfl
end
theorem back_om (s : St) (x : Option Value) : back s x = om x fun v => (v, s) := rfl

/-- What looks at nothing gives the same everywhere. -/
theorem cls_p {c : Cop} (hc : c.cl = .p) (fr : Fr) : ∃ f : Option Value, ∀ s id, (cop c).run fr s id = om f fun v => (v, s) := by
  refine ⟨om ((cop c).run fr ⟨.e, 0⟩ 0) Prod.fst, fun s id => ?_⟩
  cases c <;> first
    | (cases hc; done)
    | (simp only [cop, om_ob, om_om, om_must, om_back, back_om, om_some, cSliceS, cIaddrA, cIaddrV, unit]; done)
    | (simp only [cop, om_ob, om_om, om_must, om_back, back_om, om_some, cSliceS, cIaddrA, cIaddrV, unit]; rfl)
    | skip
  case sliceData x =>
    simp only [cop, cSliceData]
    cases asSl (x.ev fr) with
    | none => rfl
    | some p =>
      obtain ⟨a, n, k⟩ := p
      cases a with
      | none => rfl
      | some a => simp only [ob_some, om_must, om_some]
  all_goals
    simp only [cop]
    cases evL fr _ with
    | nil => rfl
    | cons x r => simp only [om_back, back_om, om_om]

/-- What looks at memory turns nothing. -/
theorem cls_l {c : Cop} (hc : c.cl = .l) (fr : Fr) (s : St) : ∃ f : Option Value, ∀ id, (cop c).run fr s id = om f fun v => (v, s) := by
  refine ⟨om ((cop c).run fr s 0) Prod.fst, fun id => ?_⟩
  cases c <;> first
    | (cases hc; done)
    | (simp only [cop, om_ob, om_om, om_must, om_back, back_om, om_some, cConvBS, cLookup, unit]; done)
    | (simp only [cop, om_ob, om_om, om_must, om_back, back_om, om_some, cConvBS, cLookup, unit]; rfl)
    | skip
  · rename_i neg x y
    simp only [cop, cEqPtr]
    cases asPtr (x.ev fr) with
    | none => rfl
    | some a => cases asPtr (y.ev fr) with
      | none => rfl
      | some b => cases a with
        | none => rfl
        | some a => cases b with
          | none => rfl
          | some b =>
            simp only [ob_some, eqAddr, om_must, om_some]
  · rename_i it
    simp only [cop, cEntryM, om_ob, om_must, om_om]
  · rename_i x
    simp only [cop, cToUnsafe]
    cases asPtr (x.ev fr) with
    | none => rfl
    | some p => cases p with
      | none => rfl
      | some a => simp only [ob_some, om_om]
  · rename_i T n x
    simp only [cop, cOfUnsafe]
    cases asPtr (x.ev fr) with
    | none => rfl
    | some p => cases p with
      | none => rfl
      | some a => simp only [ob_some, om_ob, om_must, om_some]

theorem must_some {α : Type} {b : Bool} {x a : α} (h : must b (some x) = some a) : x = a := by cases b <;> cases h; rfl
theorem om_some_eq {α β : Type} {o : Option α} {f : α → β} {b : β} (h : om o f = some b) : ∃ a, f a = b := let ⟨a, _, h⟩ := om_eq.1 h; ⟨a, h⟩

/-- What makes something makes the same everywhere. -/
theorem cls_n {c : Cop} (hc : c.cl = .n) (fr : Fr) (id : Nat) : ∃ f : Option (Value × Ob), (∀ s, (cop c).run fr s id = om f fun p => (p.1, s.set id p.2)) ∧ ∀ p, f = some p → live p.2 = true := by
  cases c with
  | box T x =>
    refine ⟨must (storable (x.ev fr)) (some (ptr id 0, .cells (vcells (x.ev fr)) 0 .ex)), fun s => by simp only [cop, om_must, om_some], fun p h => ?_⟩
    rw [← must_some h]; rfl
  | alloc T z => exact ⟨some (ptr id 0, .cells z (tag T 0) .ex), fun s => rfl, fun p h => by cases h; rfl⟩
  | buildSlice T len z ps =>
    refine ⟨om (fillL (evP fr ps) z) fun l => (.slice (some ⟨id, 0, none⟩) len len, .cells l 0 .ex), fun s => by simp only [cop, om_om], fun p h => ?_⟩
    obtain ⟨_, rfl⟩ := om_some_eq h; rfl
  | convSB T x =>
    refine ⟨ob (asStr (x.ev fr)) fun b => must (Nat.ble (lenL b) room) (some (sl id (lenL b), .cells (mapL ofByte b) 1 .gr)), fun s => by simp only [cop, cConvSB, om_ob, om_must, om_some], fun p h => ?_⟩
    obtain ⟨b, _, h⟩ := ob_eq.1 h
    rw [← must_some h]; rfl
  | mkMap h =>
    refine ⟨must (Option.rec true (fun a => (asInt (Arg.ev a fr)).isSome) h) (some (.map (some id), .map [] 0)), fun s => by simp only [cop, om_must, om_some], fun p h => ?_⟩
    rw [← must_some h]; rfl
  | mkSlice T bytes z l c =>
    refine ⟨ob (asNat (l.ev fr)) fun l => ob (asNat (c.ev fr)) fun c => must (Nat.ble l c) (must (Nat.ble (c * bytes) room) (must (Nat.ble c room) (some (.slice (some ⟨id, 0, none⟩) l c, .cells (zeros c z) 0 .ex)))), fun s => by simp only [cop, cMkSlice, om_ob, om_must, om_some], fun p h => ?_⟩
    obtain ⟨b, _, h⟩ := ob_eq.1 h
    obtain ⟨b, _, h⟩ := ob_eq.1 h
    obtain ⟨_, h⟩ := must_eq.1 h
    obtain ⟨_, h⟩ := must_eq.1 h
    rw [← must_some h]; rfl
  | rangeS x =>
    refine ⟨om (asStr (x.ev fr)) fun b => (ptr id 0, .iter ⟨⟨b⟩⟩ 0), fun s => by simp only [cop, om_om], fun p h => ?_⟩
    obtain ⟨_, rfl⟩ := om_some_eq h; rfl
  | _ => cases hc
end Go.Ev
