/-
  All operations that call nothing: what the machine does is what the model does.
-/
import Derived.Test.YticaodbgdjjgdaaGreatDoorEvUnsafe
import Derived.Test.YticaodbgdjjgdaaGreatDoorEvEqual
set_option linter.unusedVariables false
set_option linter.unusedSimpArgs false
namespace Go.Ev
open Go (Sem)
section
variable {P : Program} {ι : Inj} {w : World} {base : Nat} {s : St} {o : Oper} {a : Act} {fr : Fr} {id : Nat} {v : Value} {s' : St} {c : Cop}

def isQ (c : Cop) : Bool := match c.cl with | .p | .l => true | _ => false
/-- An operation of the machine stands for one of the model. -/
structure Says (P : Program) (ι : Inj) (base : Nat) (s : St) (w : World) (o : Oper) (a : Act) (id : Nat) (c : Cop) (v : Value) (s' : St) : Prop where
  q : isQ c = true → s' = s ∧ Ok P ι w (execOp a.eval o) v
  n : c.cl = .n → id < s.next → s.get id = none → ι id = none → Does P (· = id) ι base s w (execOp a.eval o) v s'
  w_ : c.cl = .w → ∀ S, Does P S ι base s w (execOp a.eval o) v s'

theorem Says.mkQ (hc : isQ c = true) (h1 : s' = s) (h2 : Ok P ι w (execOp a.eval o) v) : Says P ι base s w o a id c v s' :=
  ⟨fun _ => ⟨h1, h2⟩, fun h => (by unfold isQ at hc; rw [h] at hc; cases hc), fun h => (by unfold isQ at hc; rw [h] at hc; cases hc)⟩
theorem Says.mkN (hc : c.cl = .n) (h2 : id < s.next → s.get id = none → ι id = none → Does P (· = id) ι base s w (execOp a.eval o) v s') : Says P ι base s w o a id c v s' :=
  ⟨fun h => (by unfold isQ at h; rw [hc] at h; cases h), fun _ => h2, fun h => (by rw [hc] at h; cases h)⟩
theorem Says.mkW (hc : c.cl = .w) (h2 : ∀ S, Does P S ι base s w (execOp a.eval o) v s') : Says P ι base s w o a id c v s' :=
  ⟨fun h => (by unfold isQ at h; rw [hc] at h; cases h), fun h => (by rw [hc] at h; cases h), fun _ => h2⟩

abbrev Ops (ι : Inj) (o : Oper) (a : Act) (fr : Fr) : Prop := ∀ x ∈ o.op.operands.toList, VR ι ((rArg x).ev fr) (a.eval x)
abbrev Runs (c : Cop) (fr : Fr) (s : St) (id : Nat) (v : Value) (s' : St) : Prop := (cop c).run fr s id = some (v, s')

theorem back_eq {x : Option Value} (h : back s x = some (v, s')) : s' = s ∧ x = some v := by
  obtain ⟨y, rfl, h⟩ := om_eq.1 h
  cases h; exact ⟨rfl, rfl⟩

theorem s_move {x : Operand} (ho : o.op = .move x ∨ o.op = .assign x) (hr : rOp P o.op = some c) (hv : Ops ι o a fr) (r : Rel ι base s w) (h : Runs c fr s id v s') : Says P ι base s w o a id c v s' := by
  have hx : VR ι ((rArg x).ev fr) (a.eval x) := by rcases ho with ho | ho <;> exact hv x (by rw [ho]; simp [Op.operands])
  rcases ho with ho | ho <;> (rw [ho] at hr; cases hr; cases h)
  · exact .mkQ rfl rfl (q_mov (.inl ho) hx)
  · exact .mkQ rfl rfl (q_mov (.inr ho) hx)
theorem s_pick {x y z : Operand} (ho : o.op = .pick x y z) (hr : rOp P o.op = some c) (hv : Ops ι o a fr) (r : Rel ι base s w) (h : Runs c fr s id v s') : Says P ι base s w o a id c v s' := by
  have h1 := hv x (by rw [ho]; simp [Op.operands])
  have h2 := hv y (by rw [ho]; simp [Op.operands])
  have h3 := hv z (by rw [ho]; simp [Op.operands])
  rw [ho] at hr; cases hr
  obtain ⟨t, ht, h⟩ := om_eq.1 h
  cases h
  rw [asBool_eq ht] at h1
  exact .mkQ rfl rfl (q_pick ho h1.boolE h2 h3)
theorem s_alloc {t : TypeId} (ho : o.op = .alloc t) (hr : rOp P o.op = some c) (hv : Ops ι o a fr) (r : Rel ι base s w) (h : Runs c fr s id v s') : Says P ι base s w o a id c v s' := by
  rw [ho] at hr
  obtain ⟨z, hz, rfl⟩ := Option.map_eq_some_iff.1 hr
  cases h
  exact .mkN rfl fun h1 h2 h3 => d_alloc r ho hz h1 h2 h3
theorem s_box {t : TypeId} {x : Operand} (ho : o.op = .box t x) (hr : rOp P o.op = some c) (hv : Ops ι o a fr) (r : Rel ι base s w) (h : Runs c fr s id v s') : Says P ι base s w o a id c v s' := by
  have h1 := hv x (by rw [ho]; simp [Op.operands])
  rw [ho] at hr; cases hr
  obtain ⟨hs, h⟩ := must_eq.1 h
  cases h
  exact .mkN rfl fun g1 g2 g3 => d_box r ho h1 hs g1 g2 g3

theorem PR.of {place : Nat → Option (Nat × Nat)} {f : Nat × Operand → Option (Nat × Nat × Arg)} (hf : ∀ p q, f p = some q → ∃ off n, place p.1 = some (off, n) ∧ q = (off, n, rArg p.2)) : ∀ {ps : List (Nat × Operand)} {qs : List (Nat × Nat × Arg)}, ps.mapM f = some qs → PR place ps qs := by
  intro ps
  induction ps with
  | nil => intro qs h; simp at h; subst h; exact .nil
  | cons p ps ih =>
    intro qs h
    rw [List.mapM_cons] at h
    cases e : f p with
    | none => simp [e] at h
    | some q =>
      simp only [e, Option.bind_eq_bind, Option.bind_some] at h
      cases e2 : ps.mapM f with
      | none => simp [e2] at h
      | some qs2 =>
        simp only [e2, Option.bind_some] at h
        cases h
        obtain ⟨off, n, h1, rfl⟩ := hf p q e
        exact .cons h1 (ih e2)
theorem PR.all {place : Nat → Option (Nat × Nat)} {g : Nat → Nat × Nat} (hg : ∀ i, place i = some (g i)) : ∀ {ps : List (Nat × Operand)}, PR place ps (ps.map fun p => ((g p.1).1, (g p.1).2, rArg p.2)) := by
  intro ps
  induction ps with
  | nil => exact .nil
  | cons p ps ih => exact .cons (hg p.1) ih

theorem s_build {t : TypeId} {ps : Array (Nat × Operand)} (ho : o.op = .build t ps) (hr : rOp P o.op = some c) (hv : Ops ι o a fr) (r : Rel ι base s w) (h : Runs c fr s id v s') : Says P ι base s w o a id c v s' := by
  have h1 : ∀ p ∈ ps.toList, VR ι ((rArg p.2).ev fr) (a.eval p.2) := fun p hp => hv p.2 (by rw [ho]; simp [Op.operands]; exact ⟨p.1, by simpa using hp⟩)
  rw [ho] at hr
  unfold rOp at hr
  simp only at hr
  split at hr
  · rename_i fs z hT hz
    split at hr
    · cases hr
    rename_i hall
    obtain ⟨qs, hqs, rfl⟩ := Option.map_eq_some_iff.1 hr
    obtain ⟨l, hl, h⟩ := om_eq.1 h
    cases h
    refine .mkQ rfl rfl (q_buildStruct ho hT hz ?_ (PR.of ?_ hqs) h1 hl)
    · intro f hf
      simp only [Bool.not_eq_true', Bool.not_eq_false] at hall
      exact Option.isSome_iff_exists.1 (List.all_eq_true.1 hall f hf)
    · intro p q hq
      cases e : fs[p.1]? with
      | none => simp [e] at hq
      | some f =>
        simp only [e, Option.bind_eq_bind, Option.bind_some] at hq
        cases e2 : sizeOf? P f.type with
        | none => simp [e2] at hq
        | some n =>
          simp only [e2, Option.bind_some, Option.some.injEq] at hq
          exact ⟨_, _, by simp [e2], hq.symm⟩
  · rename_i len e z hT hz
    obtain ⟨n, hn, rfl⟩ := Option.map_eq_some_iff.1 hr
    obtain ⟨l, hl, h⟩ := om_eq.1 h
    cases h
    exact .mkQ rfl rfl (q_buildArray ho hT hn hz (PR.all (g := fun i => (i * n, n)) fun i => rfl) h1 hl)
  · cases hr
theorem s_buildSlice {t : TypeId} {len : Nat} {ps : Array (Nat × Operand)} (ho : o.op = .buildSlice t len ps) (hr : rOp P o.op = some c) (hv : Ops ι o a fr) (r : Rel ι base s w) (h : Runs c fr s id v s') : Says P ι base s w o a id c v s' := by
  have h1 : ∀ p ∈ ps.toList, VR ι ((rArg p.2).ev fr) (a.eval p.2) := fun p hp => hv p.2 (by rw [ho]; simp [Op.operands]; exact ⟨p.1, by simpa using hp⟩)
  rw [ho] at hr
  unfold rOp at hr
  simp only at hr
  split at hr
  · rename_i e hT
    cases hn : sizeOf? P e with
    | none => simp [hn] at hr
    | some n =>
      cases hz : zeroOf P e with
      | none => simp [hn, hz] at hr
      | some z =>
        simp only [hn, hz, Option.bind_eq_bind, Option.bind_some] at hr
        split at hr
        · cases hr
        · rename_i hcond
          cases hr
          obtain ⟨l, hl, h⟩ := om_eq.1 h
          cases h
          simp only [Bool.or_eq_true, decide_eq_true_eq, beq_iff_eq, bne_iff_ne, ne_eq, not_or, Decidable.not_not] at hcond
          obtain ⟨⟨c1, c2⟩, c3⟩ := hcond
          exact .mkN rfl fun g1 g2 g3 => d_buildSlice r ho hT hn hz c3 (by omega) (by omega) (PR.all (g := fun i => (i * n, n)) fun i => rfl) h1 hl g1 g2 g3
  · cases hr
theorem s_load {t : TypeId} {x : Operand} (ho : o.op = .load t x) (hr : rOp P o.op = some c) (hv : Ops ι o a fr) (r : Rel ι base s w) (h : Runs c fr s id v s') : Says P ι base s w o a id c v s' := by
  have h1 := hv x (by rw [ho]; simp [Op.operands])
  rw [ho] at hr
  unfold rOp at hr
  simp only at hr
  split at hr
  · rename_i hT
    cases hr
    obtain ⟨ad, ha, h⟩ := ob_eq.1 h
    obtain ⟨rfl, h⟩ := back_eq h
    rw [asAddr_eq ha] at h1
    exact .mkQ rfl rfl (q_load1 r ho hT h1 h)
  · rename_i hT
    obtain ⟨n, hn, rfl⟩ := Option.map_eq_some_iff.1 hr
    obtain ⟨ad, ha, h⟩ := ob_eq.1 h
    obtain ⟨l, hl, h⟩ := om_eq.1 h
    cases h
    rw [asAddr_eq ha] at h1
    exact .mkQ rfl rfl (q_loadN r ho hT hn h1 hl)
  · cases hr
theorem s_store {t : TypeId} {x y : Operand} (ho : o.op = .store t x y) (hr : rOp P o.op = some c) (hv : Ops ι o a fr) (r : Rel ι base s w) (h : Runs c fr s id v s') : Says P ι base s w o a id c v s' := by
  have h1 := hv x (by rw [ho]; simp [Op.operands])
  have h2 := hv y (by rw [ho]; simp [Op.operands])
  rw [ho] at hr
  obtain ⟨n, hn, rfl⟩ := Option.map_eq_some_iff.1 hr
  obtain ⟨ad, ha, h⟩ := ob_eq.1 h
  obtain ⟨hs, h⟩ := must_eq.1 h
  obtain ⟨hl, h⟩ := must_eq.1 h
  obtain ⟨s2, hp, h⟩ := om_eq.1 h
  cases h
  rw [asAddr_eq ha] at h1
  rw [Nat.beq_eq, lenL_eq] at hl
  exact .mkW rfl fun S => d_store r ho hn h1 h2 hs hl hp
theorem s_nilCheck {x : Operand} (ho : o.op = .nilCheck x) (hr : rOp P o.op = some c) (hv : Ops ι o a fr) (r : Rel ι base s w) (h : Runs c fr s id v s') : Says P ι base s w o a id c v s' := by
  have h1 := hv x (by rw [ho]; simp [Op.operands])
  rw [ho] at hr; cases hr
  obtain ⟨hn, h⟩ := must_eq.1 h
  cases h
  exact .mkQ rfl rfl (q_nilCheck ho hn h1)

theorem rNil_eq {neg : Bool} {k : NK} {x y : Operand} (h : rNil neg k x y = some c) : (isNilX k x = true ∧ c = .eqNil neg k (rArg y)) ∨ (isNilX k y = true ∧ c = .eqNil neg k (rArg x)) := by
  unfold rNil at h
  split at h
  · cases h; exact .inl ⟨‹_›, rfl⟩
  · split at h
    · cases h; exact .inr ⟨‹_›, rfl⟩
    · cases h
theorem s_nil {op : BinOp} {t u : TypeId} {x y : Operand} (ho : o.op = .binOp op t x y u) (hop : op = .eql ∨ op = .neq) {k : NK} {d : TypeDesc} (hT : P.underlying t = some d) (hd : nkType k d) (hr : rNil (negOf op) k x y = some c)
    (h1 : VR ι ((rArg x).ev fr) (a.eval x)) (h2 : VR ι ((rArg y).ev fr) (a.eval y)) (h : Runs c fr s id v s') : Says P ι base s w o a id c v s' := by
  rcases rNil_eq hr with ⟨hn, rfl⟩ | ⟨hn, rfl⟩
  · obtain ⟨b, hb, h⟩ := om_eq.1 h
    cases h
    exact .mkQ rfl rfl (q_eqNilL ho hop hT hd (fun _ => rfl) hb hn h2)
  · obtain ⟨b, hb, h⟩ := om_eq.1 h
    cases h
    exact .mkQ rfl rfl (q_eqNilR ho hop hT hd (fun _ => rfl) hb hn h1)
theorem s_eq {op : BinOp} {t u : TypeId} {x y : Operand} (ho : o.op = .binOp op t x y u) (hop : op = .eql ∨ op = .neq) (hr : (match P.underlying t with
      | some (.int _) | some .string => some (.bin op (rArg x) (rArg y))
      | some .bool => some (.eqBool (negOf op) (rArg x) (rArg y))
      | some (.pointer e) => (match sizeOf? P e with
        | some (_ + 1) => some (.eqPtr (negOf op) (rArg x) (rArg y))
        | _ => none)
      | some (.slice _) => rNil (negOf op) .sl x y
      | some (.map _ _) => rNil (negOf op) .mp x y
      | some (.func _ _ _) => rNil (negOf op) .fn x y
      | some (.interface _) => rNil (negOf op) .ifc x y
      | some (.struct _) | some (.array _ _) => (match leaves P 20 t, sizeOf? P t, isAgg? P t with
        | some l, some n, some true => if P.eqGuardType P.depth t || !(l.all fun p => decide (p.1 < n)) then none else some (.eqCells (negOf op) n l (rArg x) (rArg y))
        | _, _, _ => none)
      | _ => none) = some c) (hv : Ops ι o a fr) (r : Rel ι base s w) (h : Runs c fr s id v s') : Says P ι base s w o a id c v s' := by
  have h1 := hv x (by rw [ho]; simp [Op.operands])
  have h2 := hv y (by rw [ho]; simp [Op.operands])
  have cellsEqual : (match leaves P 20 t, sizeOf? P t, isAgg? P t with
        | some l, some n, some true => if P.eqGuardType P.depth t || !(l.all fun p => decide (p.1 < n)) then none else some (.eqCells (negOf op) n l (rArg x) (rArg y))
        | _, _, _ => none) = some c → Says P ι base s w o a id c v s' := by
    intro hr
    split at hr
    · rename_i l n hl hn hg
      split at hr
      · cases hr
      · rename_i hcond
        cases hr
        simp only [Bool.or_eq_true, Bool.not_eq_true', not_or, Bool.not_eq_true, Bool.not_eq_false] at hcond
        obtain ⟨A, hA, H1⟩ := ob_eq.1 h
        obtain ⟨B, hB, H2⟩ := ob_eq.1 H1
        obtain ⟨k1, H3⟩ := must_eq.1 H2
        obtain ⟨k2, H4⟩ := must_eq.1 H3
        obtain ⟨q, hq, H5⟩ := om_eq.1 H4
        cases H5
        rw [Nat.beq_eq, lenL_eq] at k1 k2
        rw [asAgg_eq hA] at h1
        rw [asAgg_eq hB] at h2
        exact .mkQ rfl rfl (q_eqCells ho hop hl hn hg hcond.1 hcond.2 h1 h2 k1 k2 hq)
    · cases hr
  split at hr
  · cases hr
    obtain ⟨h3, h4⟩ := back_eq h
    exact .mkQ rfl h3 (q_bin ho h4 h1 h2)
  · cases hr
    obtain ⟨h3, h4⟩ := back_eq h
    exact .mkQ rfl h3 (q_bin ho h4 h1 h2)
  · rename_i hT
    cases hr
    obtain ⟨b, hb, h⟩ := om_eq.1 h
    cases h
    obtain ⟨p, hp, hb⟩ := ob_eq.1 hb
    obtain ⟨q, hq, hb⟩ := ob_eq.1 hb
    cases hb
    rw [asBool_eq hp] at h1
    rw [asBool_eq hq] at h2
    exact .mkQ rfl rfl (q_eqBool ho hop hT h1.boolE h2.boolE)
  · rename_i e hT
    split at hr
    · rename_i n hE
      cases hr
      obtain ⟨p, hp, h⟩ := ob_eq.1 h
      obtain ⟨q, hq, h⟩ := ob_eq.1 h
      rw [asPtr_eq hp] at h1
      rw [asPtr_eq hq] at h2
      have hs : s' = s := by
        cases p with
        | none => cases h; rfl
        | some p => cases q with
          | none => cases h; rfl
          | some q =>
            obtain ⟨_, h⟩ := must_eq.1 h
            obtain ⟨_, h⟩ := must_eq.1 h
            cases h; rfl
      subst hs
      exact .mkQ rfl rfl (q_eqPtr r ho hop hT hE h1 h2 h)
    · cases hr
  · rename_i hT; exact s_nil (k := .sl) ho hop hT trivial hr h1 h2 h
  · rename_i hT; exact s_nil (k := .mp) ho hop hT trivial hr h1 h2 h
  · rename_i hT; exact s_nil (k := .fn) ho hop hT trivial hr h1 h2 h
  · rename_i hT; exact s_nil (k := .ifc) ho hop hT trivial hr h1 h2 h
  · exact cellsEqual hr
  · exact cellsEqual hr
  · cases hr
end
end Go.Ev
