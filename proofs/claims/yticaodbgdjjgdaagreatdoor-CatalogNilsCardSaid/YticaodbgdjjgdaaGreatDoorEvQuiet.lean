/-
  Operations that change nothing: what the machine gives stands for what the model gives, in the same world.
-/
import Derived.Test.YticaodbgdjjgdaaGreatDoorEvInv
import Derived.Tactics
import Derived.Laws.Strings
set_option linter.unusedVariables false
set_option linter.unusedSimpArgs false
namespace Go.Ev
open Go (Sem)

/-- The operation gives a value that stands for v, and turns nothing. -/
def Ok (P : Program) (ι : Inj) (w : World) (m : Sem Next) (v : Value) : Prop := ∃ v', m.run P w = .ok (.value v') w ∧ VR ι v v'

section
variable {P : Program} {ι : Inj} {w : World}

theorem bytes_toList (b : ByteArray) : b.toList = b.data.toList := ByteArray.toList_eq b

theorem bytesLt_eq (x : List UInt8) : ∀ y, bytesLt x y = Op.bytesLess x y := by
  induction x with
  | nil => intro y; cases y <;> rfl
  | cons a x ih =>
    intro y
    cases y with
    | nil => rfl
    | cons b y =>
      show cnd (Nat.blt a.toNat b.toNat) true (cnd (Nat.beq a.toNat b.toNat) (bytesLt x y) false) = _
      rw [ih y, Op.bytesLess]
      have h1 : Nat.blt a.toNat b.toNat = decide (a < b) := by
        rw [Bool.eq_iff_iff]; simp [Nat.blt, UInt8.lt_iff_toNat_lt, Nat.succ_le_iff]
      have h2 : Nat.beq a.toNat b.toNat = (a == b) := by
        rw [Bool.eq_iff_iff, Nat.beq_eq, beq_iff_eq]; exact UInt8.toNat_inj
      rw [h1, h2]
      cases decide (a < b) <;> cases (a == b) <;> simp [cnd_eq]

theorem binInt_ok {op : BinOp} {k : IntKind} {a b : Int} {v : Value} (T : TypeId) (h : (binInt op).run k a b = some v) :
    (Go.binOp op T (.int k a) (.int k b)).run P w = .ok v w ∧ VR ι v v := by
  cases op <;> simp only [binInt, must_eq, iEq_eq, iLe_eq, iLt_eq, wr_eq, bits] at h
  all_goals first
    | (cases h; exact ⟨by simp [Go.binOp, Op.intArith, Op.intBits, Op.intCmp] <;> rfl, by first | exact .int _ _ | exact .bool _⟩)
    | (obtain ⟨h0, h⟩ := h; cases h
       have hb : b ≠ 0 := by simpa using h0
       exact ⟨by simp [Go.binOp, Op.intDiv, hb], .int _ _⟩)
    | cases h

theorem pow2_eq (n : Nat) : pow2 n = (2 : Int) ^ n := by
  show ((2 ^ n : Nat) : Int) = _
  rw [Int.natCast_pow]; rfl
theorem binShift_ok {op : BinOp} {k k' : IntKind} {a b : Int} {v : Value} (T : TypeId) (h : (binShift op).run k a b = some v) :
    (Go.binOp op T (.int k a) (.int k' b)).run P w = .ok v w ∧ VR ι v v := by
  cases op <;> simp only [binShift, must_eq, iLe_eq, wr_eq, pow2_eq] at h
  all_goals first
    | (obtain ⟨h0, h⟩ := h; cases h
       have hb : ¬ b < 0 := by simpa using h0
       exact ⟨by simp [Go.binOp, Op.shift, hb], .int _ _⟩)
    | cases h
theorem binStr_ok {op : BinOp} {a b : List UInt8} {v : Value} (T : TypeId) (h : (binStr op).run a b = some v) :
    (Go.binOp op T (strOf a) (strOf b)).run P w = .ok v w ∧ VR ι v v := by
  have e1 : (strOf a) = .string ⟨⟨a⟩⟩ := rfl
  have e2 : (strOf b) = .string ⟨⟨b⟩⟩ := rfl
  have t1 : (⟨⟨a⟩⟩ : ByteArray).toList = a := bytes_toList _
  have t2 : (⟨⟨b⟩⟩ : ByteArray).toList = b := bytes_toList _
  have tri : ∀ (x y : List UInt8), (Op.bytesLess x y || x == y) = !Op.bytesLess y x := by
    intro x
    induction x with
    | nil => intro y; cases y <;> simp [Op.bytesLess]
    | cons c x ih =>
      intro y
      cases y with
      | nil => simp [Op.bytesLess]
      | cons d y =>
        simp only [Op.bytesLess, List.cons_beq_cons]
        have := ih y
        by_cases h1 : c < d
        · have h2 : ¬ d < c := by simp [UInt8.lt_iff_toNat_lt] at *; omega
          have h3 : (d == c) = false := by simp; rintro rfl; exact h2 h1
          simp [h1, h2, h3]
        · by_cases h2 : c = d
          · subst h2; simp [h1, this]
          · have h3 : d < c := by
              simp [UInt8.lt_iff_toNat_lt] at *
              have : c.toNat ≠ d.toNat := fun e => h2 (UInt8.toNat_inj.1 e)
              omega
            simp [h1, h2, h3]
  rw [e1, e2]
  by_cases hop : op = .add
  · subst hop
    simp only [binStr, must_eq, Nat.ble_eq] at h
    obtain ⟨h0, h⟩ := h
    cases h
    refine ⟨?_, .string _⟩
    have hb : ¬ ((((⟨⟨a⟩⟩ : ByteArray).size + (⟨⟨b⟩⟩ : ByteArray).size : Nat) : Int) > IntKind.i64.max) := by
      have e3 : (⟨⟨a⟩⟩ : ByteArray).size = a.length := rfl
      have e4 : (⟨⟨b⟩⟩ : ByteArray).size = b.length := rfl
      rw [e3, e4, show IntKind.i64.max = 9223372036854775807 from rfl]; omega
    have e5 : (⟨⟨a⟩⟩ : ByteArray) ++ ⟨⟨b⟩⟩ = ⟨⟨a ++ b⟩⟩ := by
      apply ByteArray.ext; rw [ByteArray.data_append]; simp
    simp only [Go.binOp, Op.stringOp, if_neg hb]
    rw [e5]; rfl
  cases op <;> simp only [binStr, must_eq, Nat.ble_eq, bytesEq_eq, bytesLt_eq] at h
  all_goals first
    | exact absurd rfl hop
    | (cases h; refine ⟨?_, .bool _⟩; simp [Go.binOp, Op.stringOp, t1, t2, tri]; done)
    | (cases h; refine ⟨?_, .bool _⟩; simp [Go.binOp, Op.stringOp, t1, t2]; rw [Bool.eq_iff_iff]; simp; done)
    | cases h

/-- An operation of two operands, of numbers or of texts. -/
theorem binOp_ok {op : BinOp} {x y x' y' v : Value} (T : TypeId) (h : binOp op x y = some v) (hx : VR ι x x') (hy : VR ι y y') :
    (Go.binOp op T x' y').run P w = .ok v w ∧ VR ι v v := by
  unfold binOp at h
  cases e : asInt x with
  | none =>
    rw [e] at h
    obtain ⟨a, ha, h⟩ := ob_eq.1 h
    obtain ⟨b, hb, h⟩ := ob_eq.1 h
    rw [asStr_eq ha] at hx; rw [asStr_eq hb] at hy
    rw [hx.strE, hy.strE]
    exact binStr_ok T h
  | some a =>
    rw [e] at h
    obtain ⟨b, hb, h⟩ := ob_eq.1 h
    rw [asInt_eq e] at hx; rw [asInt_eq hb] at hy
    rw [hx.intE, hy.intE]
    rw [cnd_eq] at h
    split at h
    · exact binShift_ok T h
    · obtain ⟨h1, h⟩ := must_eq.1 h
      rw [kEq_eq] at h1
      have : a.1 = b.1 := by simpa using h1
      rw [← this]
      exact binInt_ok T h

theorem eqGuard_no {op : BinOp} {T : TypeId} {x y : Operand} {a b : Value} (h : ∀ k n, a ≠ .agg n ∧ (a = .nilIface → k = b → b ≠ .nilIface)) : (eqGuard op T x y a b).run P w = .ok () w := by
  unfold eqGuard
  have h1 := fun n => (h a n).1
  have h2 := (h b #[]).2
  cases op <;> simp
  all_goals
    cases a <;> (try simp)
    all_goals
      cases b <;> (try simp)
      all_goals first
        | exact absurd rfl (h2 rfl rfl)
        | exact absurd rfl (h1 _)

variable {o : Oper} {ρ : Operand → Value}

theorem run_v {m : Sem Value} {v : Value} {w' : World} (h : m.run P w = .ok v w') : (do pure (Next.value (← m)) : Sem Next).run P w = .ok (.value v) w' := by
  rw [Sem.run_bind]
  simp [h, Result.andThen]

theorem run_underlying {T : TypeId} {d : TypeDesc} (h : P.underlying T = some d) : (underlying T).run P w = .ok d w := by
  simp [underlying, program, h, Sem.run]
theorem run_typeInfo {T : TypeId} {d : TypeInfo} (h : P.info? T = some d) : (typeInfo T).run P w = .ok d w := by
  simp [typeInfo, program, h, Sem.run]
theorem run_sizeOf {T : TypeId} {n : Nat} (h : sizeOf? P T = some n) : (sizeOf T).run P w = .ok n w := by
  unfold sizeOf? at h
  cases e : P.info? T with
  | none => rw [e] at h; cases h
  | some i => rw [e] at h; cases h; simp [sizeOf, run_typeInfo e, Result.andThen]
theorem run_isAgg {T : TypeId} {b : Bool} (h : isAgg? P T = some b) : (isAgg T).run P w = .ok b w := by
  unfold isAgg? at h
  cases e : P.underlying T with
  | none => rw [e] at h; cases h
  | some d =>
    rw [e] at h
    simp only [isAgg, Sem.run_bind, run_underlying e, Result.andThen]
    cases d <;> cases h <;> rfl
theorem run_zeroValue {T : TypeId} {z : Value} (h : zeroOf P T = some z) : (zeroValue T).run P w = .ok z w ∧ plainV z = true := by
  unfold zeroOf at h
  cases e : P.info? T with
  | none => rw [e] at h; cases h
  | some i =>
    rw [e] at h
    cases e2 : i.zero with
    | none => simp [e2] at h
    | some z' =>
      simp only [Option.bind_some, e2] at h
      split at h
      · cases h; exact ⟨by simp [zeroValue, run_typeInfo e, e2, Result.andThen], ‹_›⟩
      · cases h

theorem q_mov {x : Operand} (ho : o.op = .move x ∨ o.op = .assign x) {v : Value} (hx : VR ι v (ρ x)) : Ok P ι w (execOp ρ o) v := by
  refine ⟨ρ x, ?_, hx⟩
  rcases ho with ho | ho <;> simp [execOp, ho]

theorem q_pick {c a b : Operand} (ho : o.op = .pick c a b) {t : Bool} {va vb : Value} (hc : ρ c = .bool t) (ha : VR ι va (ρ a)) (hb : VR ι vb (ρ b)) : Ok P ι w (execOp ρ o) (cnd t va vb) := by
  cases t
  · exact ⟨ρ b, by simp [execOp, ho, hc, Go.asBool, Result.andThen], hb⟩
  · exact ⟨ρ a, by simp [execOp, ho, hc, Go.asBool, Result.andThen], ha⟩

theorem q_bin {op : BinOp} {T yT : TypeId} {x y : Operand} (ho : o.op = .binOp op T x y yT) {X Y v : Value} (h : binOp op X Y = some v) (hx : VR ι X (ρ x)) (hy : VR ι Y (ρ y)) : Ok P ι w (execOp ρ o) v := by
  have hr := binOp_ok (P := P) (w := w) T h hx hy
  refine ⟨v, ?_, hr.2⟩
  have hg : (eqGuard op T x y (ρ x) (ρ y)).run P w = .ok () w := by
    refine eqGuard_no fun k n => ?_
    unfold binOp at h
    cases e : asInt X with
    | none =>
      rw [e] at h
      obtain ⟨a, ha, h⟩ := ob_eq.1 h
      rw [asStr_eq ha] at hx; rw [hx.strE]
      exact ⟨by simp [strOf], by simp [strOf]⟩
    | some a =>
      rw [asInt_eq e] at hx; rw [hx.intE]
      exact ⟨by simp, by simp⟩
  simp only [execOp, ho]
  refine run_v ?_
  rw [Sem.run_bind, hg]
  exact hr.1

theorem run_equal {T : TypeId} {x y : Value} {b : Bool} (h : (Op.equalIn (9999 + 1) T x y).run P w = .ok b w) : (Op.equal T x y).run P w = .ok b w := h
theorem q_eqBool {op : BinOp} {T yT : TypeId} {x y : Operand} (ho : o.op = .binOp op T x y yT) (hop : op = .eql ∨ op = .neq) (hT : P.underlying T = some .bool) {a b : Bool} (hx : ρ x = .bool a) (hy : ρ y = .bool b) :
    Ok P ι w (execOp ρ o) (tf (negOf op) (a == b)) := by
  refine ⟨_, ?_, .bool _⟩
  have hg : (eqGuard op T x y (ρ x) (ρ y)).run P w = .ok () w := by
    rw [hx]; exact eqGuard_no fun k n => ⟨by simp, by simp⟩
  simp only [execOp, ho]
  refine run_v ?_
  rw [Sem.run_bind, hg]
  simp only [Result.andThen, hx, hy]
  have he : (Op.equal T (.bool a) (.bool b)).run P w = .ok (a == b) w := run_equal (by rw [Op.equalIn]; simp [run_underlying hT, Result.andThen])
  rcases hop with rfl | rfl
  · show (do pure (Value.bool (← Op.equal T (.bool a) (.bool b))) : Sem Value).run P w = _
    simp [he, Result.andThen, tf, negOf]
  · show (do pure (Value.bool (!(← Op.equal T (.bool a) (.bool b)))) : Sem Value).run P w = _
    simp [he, Result.andThen, tf, negOf]

theorem q_un {op : UnOp} {T : TypeId} {x : Operand} (ho : o.op = .unOp op T x) {X v : Value} (h : unOp op X = some v) (hx : VR ι X (ρ x)) : Ok P ι w (execOp ρ o) v := by
  simp only [Ok, execOp, ho]
  cases op <;> simp only [unOp, om_eq] at h
  · obtain ⟨a, ha, h⟩ := h
    rw [asInt_eq ha] at hx; subst h; rw [wr_eq]
    exact ⟨_, run_v (by rw [hx.intE]; simp [Op.unary, Op.intArith]), .int _ _⟩
  · obtain ⟨a, ha, h⟩ := h
    rw [asInt_eq ha] at hx; subst h; unfold bits; rw [wr_eq]
    exact ⟨_, run_v (by rw [hx.intE]; simp [Op.unary, Op.intBits]), .int _ _⟩
  · obtain ⟨a, ha, h⟩ := h
    rw [asBool_eq ha] at hx; subst h
    exact ⟨_, run_v (by rw [hx.boolE]; simp [Op.unary]), .bool _⟩
  · cases h

theorem q_convI {S D : TypeId} {x : Operand} (ho : o.op = .convert S D x) {k j : IntKind} (hS : P.underlying S = some (.int j)) (hD : P.underlying D = some (.int k)) {X : Value} {p : IntKind × Int} (h : asInt X = some p) (hx : VR ι X (ρ x)) :
    Ok P ι w (execOp ρ o) (.int k (wr k p.2)) := by
  rw [asInt_eq h] at hx
  refine ⟨_, ?_, .int _ _⟩
  simp only [execOp, ho]
  refine run_v ?_
  rw [hx.intE, wr_eq]
  simp [convert, run_underlying hS, run_underlying hD, Conv.intToInt, Result.andThen]
theorem q_convStr {S D : TypeId} {x : Operand} (ho : o.op = .convert S D x) (hS : P.underlying S = some .string) (hD : P.underlying D = some .string) {X : Value} {b : ByteArray} (hb : ρ x = .string b) (hx : VR ι X (ρ x)) :
    Ok P ι w (execOp ρ o) X := by
  refine ⟨_, ?_, hx⟩
  simp only [execOp, ho]
  refine run_v ?_
  rw [hb]
  simp [convert, run_underlying hS, run_underlying hD, Result.andThen]
theorem q_convIS {S D : TypeId} {x : Operand} (ho : o.op = .convert S D x) {j : IntKind} (hS : P.underlying S = some (.int j)) (hD : P.underlying D = some .string) {X : Value} {p : IntKind × Int} (h : asInt X = some p) (hx : VR ι X (ρ x)) :
    Ok P ι w (execOp ρ o) (.string (Utf8.encode p.2)) := by
  rw [asInt_eq h] at hx
  refine ⟨_, ?_, .string _⟩
  simp only [execOp, ho]
  refine run_v ?_
  rw [hx.intE]
  simp [convert, run_underlying hS, run_underlying hD, Conv.intToString, Result.andThen]

theorem q_iface {T : TypeId} {x : Operand} (ho : o.op = .makeInterface T x) {d : TypeDesc} (hT : P.underlying T = some d) (hd : ∀ ms, d ≠ .interface ms) {X : Value} (hx : VR ι X (ρ x)) : Ok P ι w (execOp ρ o) (.iface T X) := by
  refine ⟨_, ?_, .iface T hx⟩
  simp only [execOp, ho]
  refine run_v ?_
  simp only [Instr.makeInterface, Sem.run_bind, run_underlying hT, Result.andThen]
  cases d <;> first | rfl | exact absurd rfl (hd _)

theorem q_extract {x : Operand} {i : Nat} (ho : o.op = .extract x i) {l : List Value} {v : Value} (hv : l[i]? = some v) (hx : VR ι (.tuple ⟨l⟩) (ρ x)) : Ok P ι w (execOp ρ o) v := by
  obtain ⟨m, hm, hr⟩ := hx.tupE
  obtain ⟨y, hy, hvy⟩ := hr.some hv
  refine ⟨y, ?_, hvy⟩
  simp only [execOp, ho]
  refine run_v ?_
  rw [hm]
  simp [Instr.extract, hy]

theorem q_nilCheck {x : Operand} (ho : o.op = .nilCheck x) {X : Value} (h : nilOk X = true) (hx : VR ι X (ρ x)) : Ok P ι w (execOp ρ o) X := by
  refine ⟨ρ x, ?_, hx⟩
  simp only [execOp, ho]
  generalize ρ x = X' at hx
  cases hx <;> simp [nilOk] at h ⊢
  · rename_i f f' a a' c c' hf ha hav hc hcv
    cases f <;> simp [fnId] at h
    cases hf
    simp
end
end Go.Ev
