/-
  Nil, pointers that are compared, least and greatest, aggregates, bytes to text.
-/
import Derived.Test.YticaodbgdjjgdaaGreatDoorEvSlice
set_option linter.unusedVariables false
set_option linter.unusedSimpArgs false
namespace Go.Ev
open Go (Sem)
section
variable {P : Program} {ι : Inj} {w : World} {base : Nat} {s : St} {o : Oper} {ρ : Operand → Value}

/-- Equality, told by the model's '=='. -/
theorem q_eq {op : BinOp} {T yT : TypeId} {x y : Operand} (ho : o.op = .binOp op T x y yT) (hop : op = .eql ∨ op = .neq) {b : Bool} (hg : (eqGuard op T x y (ρ x) (ρ y)).run P w = .ok () w)
    (hb : ∀ op, op = .eql ∨ op = .neq → Go.binOp op T (ρ x) (ρ y) = (match op with | .neq => do pure (Value.bool (!(← Op.equal T (ρ x) (ρ y)))) | _ => do pure (Value.bool (← Op.equal T (ρ x) (ρ y)))))
    (he : (Op.equal T (ρ x) (ρ y)).run P w = .ok b w) : Ok P ι w (execOp ρ o) (tf (negOf op) b) := by
  refine ⟨_, ?_, .bool _⟩
  simp only [execOp, ho]
  refine run_v ?_
  rw [Sem.run_bind, hg]
  simp only [Result.andThen, hb op hop]
  rcases hop with rfl | rfl
  · simp [he, Result.andThen, tf, negOf]
  · simp [he, Result.andThen, tf, negOf]

def nilOf : NK → Value
  | .sl => .slice none 0 0 | .mp => .map none | .fn => .nilFunc | .ifc => .nilIface
def nkType : NK → TypeDesc → Prop
  | .sl, .slice _ => True | .mp, .map _ _ => True | .fn, .func _ _ _ => True | .ifc, .interface _ => True
  | _, _ => False
theorem isNilX_eq {k : NK} {x : Operand} (h : isNilX k x = true) :
    (k = .sl ∧ ∃ n c, x = .const (.slice none n c)) ∨ (k = .mp ∧ x = .const (.map none)) ∨ (k = .fn ∧ x = .const .nilFunc) ∨ (k = .ifc ∧ x = .const .nilIface) := by
  unfold isNilX at h
  split at h
  · exact .inl ⟨rfl, _, _, rfl⟩
  · exact .inr (.inl ⟨rfl, rfl⟩)
  · exact .inr (.inr (.inl ⟨rfl, rfl⟩))
  · exact .inr (.inr (.inr ⟨rfl, rfl⟩))
  · cases h

theorem q_eqNilL {op : BinOp} {T yT : TypeId} {x y : Operand} (ho : o.op = .binOp op T x y yT) (hop : op = .eql ∨ op = .neq) {k : NK} {d : TypeDesc} (hT : P.underlying T = some d) (hd : nkType k d)
    (hρ : ∀ v, ρ (.const v) = v) {X : Value} {b : Bool} (h : isNil k X = some b) (hn : isNilX k x = true) (hx : VR ι X (ρ y)) : Ok P ι w (execOp ρ o) (tf (negOf op) b) := by
  rcases isNilX_eq hn with ⟨rfl, n, c, rfl⟩ | ⟨rfl, rfl⟩ | ⟨rfl, rfl⟩ | ⟨rfl, rfl⟩
  all_goals
    refine q_eq ho hop ?_ ?_ ?_
    · rw [hρ]; unfold eqGuard
      generalize ρ y = Y
      rcases hop with rfl | rfl <;> cases Y <;> simp
    · intro op hop
      rw [hρ]
      generalize ρ y = Y at hx
      cases hx <;> first | (simp only [isNil] at h; cases h; done) | (rcases hop with rfl | rfl <;> rfl)
    · rw [hρ]
      refine run_equal ?_
      rw [Op.equalIn, Sem.run_bind, run_underlying hT]
      simp only [Result.andThen]
      generalize ρ y = Y at hx
      cases d <;> first | exact hd.elim | skip
      cases hx <;> simp only [isNil] at h <;> cases h <;> rfl
theorem q_eqNilR {op : BinOp} {T yT : TypeId} {x y : Operand} (ho : o.op = .binOp op T x y yT) (hop : op = .eql ∨ op = .neq) {k : NK} {d : TypeDesc} (hT : P.underlying T = some d) (hd : nkType k d)
    (hρ : ∀ v, ρ (.const v) = v) {X : Value} {b : Bool} (h : isNil k X = some b) (hn : isNilX k y = true) (hx : VR ι X (ρ x)) : Ok P ι w (execOp ρ o) (tf (negOf op) b) := by
  rcases isNilX_eq hn with ⟨rfl, n, c, rfl⟩ | ⟨rfl, rfl⟩ | ⟨rfl, rfl⟩ | ⟨rfl, rfl⟩
  all_goals
    refine q_eq ho hop ?_ ?_ ?_
    · rw [hρ]; unfold eqGuard
      generalize ρ x = Y
      rcases hop with rfl | rfl <;> cases Y <;> simp
    · intro op hop
      rw [hρ]
      generalize ρ x = Y at hx
      cases hx <;> first | (simp only [isNil] at h; cases h; done) | (rcases hop with rfl | rfl <;> rfl)
    · rw [hρ]
      refine run_equal ?_
      rw [Op.equalIn, Sem.run_bind, run_underlying hT]
      simp only [Result.andThen]
      generalize ρ x = Y at hx
      cases d <;> first | exact hd.elim | skip
      cases hx <;> simp only [isNil] at h <;> cases h <;> rfl

theorem isEx_eq {x : Option Ob} (h : isEx x = true) : ∃ cs es, x = some (.cells cs es .ex) := by
  unfold isEx at h
  cases e : asCells x with
  | none => rw [e] at h; cases h
  | some c =>
    rw [e] at h
    obtain ⟨cs, es, md⟩ := c
    have := asCells_eq e
    cases md <;> first | (cases h; done) | exact ⟨cs, es, this⟩

theorem q_eqPtr (r : Rel ι base s w) {op : BinOp} {T yT E : TypeId} {x y : Operand} (ho : o.op = .binOp op T x y yT) (hop : op = .eql ∨ op = .neq) (hT : P.underlying T = some (.pointer E)) {n : Nat} (hE : sizeOf? P E = some (n + 1))
    {a b : Option Addr} (hx : VR ι (.pointer a) (ρ x)) (hy : VR ι (.pointer b) (ρ y)) {v : Value}
    (h : (Option.rec (some (tf (negOf op) b.isNone, s)) (fun a => Option.rec (some (tf (negOf op) false, s)) (fun b => eqAddr (negOf op) s a b) b) a : R) = some (v, s)) :
    Ok P ι w (execOp ρ o) v := by
  have hX : ∃ a', ρ x = .pointer a' := by generalize ρ x = X at hx; cases hx <;> exact ⟨_, rfl⟩
  have hY : ∃ b', ρ y = .pointer b' := by generalize ρ y = X at hy; cases hy <;> exact ⟨_, rfl⟩
  obtain ⟨a', ea⟩ := hX
  obtain ⟨b', eb⟩ := hY
  rw [ea] at hx; rw [eb] at hy
  have g0 : (eqGuard op T x y (ρ x) (ρ y)).run P w = .ok () w := by rw [ea]; exact eqGuard_no fun k n => ⟨by simp, by simp⟩
  have g1 : ∀ op, op = .eql ∨ op = .neq → Go.binOp op T (ρ x) (ρ y) = (match op with | .neq => do pure (Value.bool (!(← Op.equal T (ρ x) (ρ y)))) | _ => do pure (Value.bool (← Op.equal T (ρ x) (ρ y)))) := by
    rw [ea, eb]; intro op hop; rcases hop with rfl | rfl <;> rfl
  have fin : ∀ t : Bool, (Op.equalIn (9999 + 1) T (.pointer a') (.pointer b')).run P w = .ok t w → v = tf (negOf op) t → Ok P ι w (execOp ρ o) v := by
    rintro t ht rfl
    exact q_eq ho hop g0 g1 (by rw [ea, eb]; exact run_equal ht)
  cases a with
  | none =>
    cases hx
    cases h
    refine fin b.isNone ?_ rfl
    rw [Op.equalIn, Sem.run_bind, run_underlying hT]
    cases hy <;> rfl
  | some a =>
    cases b with
    | none =>
      cases h
      cases hy
      refine fin false ?_ rfl
      rw [Op.equalIn, Sem.run_bind, run_underlying hT]
      cases hx <;> rfl
    | some b =>
      obtain ⟨a2, rfl, ha⟩ : ∃ a2, a' = some a2 ∧ AR ι a a2 := by cases hx; exact ⟨_, rfl, ‹_›⟩
      obtain ⟨b2, rfl, hb⟩ : ∃ b2, b' = some b2 ∧ AR ι b b2 := by cases hy; exact ⟨_, rfl, ‹_›⟩
      unfold eqAddr at h
      obtain ⟨h1, h⟩ := must_eq.1 h
      obtain ⟨h2, h⟩ := must_eq.1 h
      cases h
      obtain ⟨cs1, es1, e1⟩ := isEx_eq h1
      obtain ⟨cs2, es2, e2⟩ := isEx_eq h2
      obtain ⟨B1, hB1, hs1, rfl⟩ := ha
      obtain ⟨B2, hB2, hs2, rfl⟩ := hb
      refine fin _ ?_ rfl
      rw [Op.equalIn, Sem.run_bind, run_underlying hT]
      simp only [Result.andThen, Sem.run_bind, run_sizeOf hE]
      simp only [ne_eq, Nat.add_eq_zero_iff, Nat.succ_ne_self, and_false, not_false_eq_true, if_true, Sem.run_ite]
      by_cases hab : a.block = b.block
      · rw [hab] at hB1; rw [hB1] at hB2; cases hB2
        have : Nat.beq a.block b.block = true := by rw [Nat.beq_eq]; exact hab
        rw [this]
        simp only [sameAddr, beq_self_eq_true, if_true, Bool.true_and, Sem.run_pure]
        congr 1
        rw [Bool.eq_iff_iff, Nat.beq_eq]
        simp
      · have hne := r.sep a.block b.block _ _ B1 B2 e1 e2 hab rfl rfl hB1 hB2
        have : Nat.beq a.block b.block = false := by rw [← Bool.not_eq_true, Nat.beq_eq]; exact hab
        rw [this]
        obtain ⟨c1, T1, f1, w1, ⟨_, _, _, p1, p2, p3⟩, _⟩ := r.cells e1 hB1
        obtain ⟨c2, T2, f2, w2, ⟨_, _, _, q1, q2, q3⟩, _⟩ := r.cells e2 hB2
        subst p3; subst q3
        have hfz : ∀ o, w.frozen? ⟨B1.b, o, none⟩ = false := by intro o; simp [World.frozen?, w1]
        have hfz2 : ∀ o, w.frozen? ⟨B2.b, o, none⟩ = false := by intro o; simp [World.frozen?, w2]
        have hsh : w.shape? B1.b = some (T1, c1.size) := by simp [World.shape?, w1]
        have hsh2 : w.shape? B2.b = some (T2, c2.size) := by simp [World.shape?, w2]
        have hbb : (B1.b == B2.b) = false := by simpa using hne
        simp [sameAddr, hbb, frozen, shape, noView, viewAt, mayBeOne, stringish, Sem.run, hfz, hfz2, hsh, hsh2, Result.andThen]
end
end Go.Ev
