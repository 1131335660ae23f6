/-
  Maps, whose keys are numbers, texts or truths.
-/
import Derived.Test.YticaodbgdjjgdaaGreatDoorEvAppend2
import Derived.MapKept
set_option linter.unusedVariables false
set_option linter.unusedSimpArgs false
namespace Go.Ev
open Go (Sem)

def ckType : CK → TypeDesc → Prop
  | .bool, .bool => True | .int, .int _ => True | .str, .string => True
  | _, _ => False

theorem keyOne {c : CK} {x y : Value} : keyEq (some [c]) x y = (cellEq c).run x y := rfl

/-- What a comparison of two keys tells. -/
theorem key_eq {c : CK} {d : TypeDesc} (hd : ckType c d) {x y : Value} {b : Bool} (h : keyEq (some [c]) x y = some b) :
    keyEq none x y = some b ∧ keyEq none y x = some b ∧ (b = true → x = y) ∧ Instr.sameNow d x y = some b ∧ (∀ ι x', VR ι x x' → x' = x) ∧ (∀ ι y', VR ι y y' → y' = y) ∧ keyEq (some [c]) x x = some true := by
  rw [keyOne] at h
  cases c <;> simp only [cellEq] at h
  · obtain ⟨p, hp, h⟩ := ob_eq.1 h
    obtain ⟨q, hq, h⟩ := ob_eq.1 h
    obtain ⟨hk, h⟩ := must_eq.1 h
    rw [asInt_eq hp, asInt_eq hq]
    rw [kEq_eq] at hk
    have hk : p.1 = q.1 := by simpa using hk
    rw [iEq_eq] at h
    cases h
    cases d <;> try exact hd.elim
    have e1 : ∀ k a b, keyEq none (.int k a) (.int k b) = some (decide (a = b)) := by
      intro k a b
      show must (kEq k k) (some (iEq a b)) = _
      rw [kEq_eq, iEq_eq]; simp
    refine ⟨by rw [hk, e1], by rw [hk, e1]; congr 1; rw [Bool.eq_iff_iff]; simp [eq_comm], ?_, ?_, fun _ _ h => h.intE, fun _ _ h => h.intE, ?_⟩
    · intro h; have h : p.2 = q.2 := by simpa using h
      rw [hk, h]
    · simp only [Instr.sameNow]; rw [if_pos hk]; congr 1
    · show must (kEq p.1 p.1) (some (iEq p.2 p.2)) = _
      rw [kEq_eq, iEq_eq]; simp
  · obtain ⟨p, hp, h⟩ := ob_eq.1 h
    obtain ⟨q, hq, h⟩ := ob_eq.1 h
    rw [asStr_eq hp, asStr_eq hq]
    rw [bytesEq_eq] at h
    cases h
    cases d <;> try exact hd.elim
    have e1 : ∀ a b, keyEq none (strOf a) (strOf b) = some (decide (a = b)) := by
      intro a b
      show some (bytesEq a b) = _
      rw [bytesEq_eq]
    refine ⟨e1 _ _, by rw [e1]; congr 1; rw [Bool.eq_iff_iff]; simp [eq_comm], ?_, ?_, fun _ _ h => h.strE, fun _ _ h => h.strE, ?_⟩
    · intro h; have h : p = q := by simpa using h
      rw [h]
    · simp only [strOf, Instr.sameNow]; congr 1
      have : ((⟨⟨p⟩⟩ : ByteArray) == ⟨⟨q⟩⟩) = ((⟨p⟩ : Array UInt8) == ⟨q⟩) := rfl
      rw [this, Bool.eq_iff_iff]; simp
    · show some (bytesEq p p) = _
      rw [bytesEq_eq]; simp
  · obtain ⟨p, hp, h⟩ := ob_eq.1 h
    obtain ⟨q, hq, h⟩ := ob_eq.1 h
    rw [asBool_eq hp, asBool_eq hq]
    cases h
    cases d <;> try exact hd.elim
    refine ⟨rfl, ?_, ?_, rfl, fun _ _ h => h.boolE, fun _ _ h => h.boolE, ?_⟩
    · show some (q == p) = some (p == q)
      cases p <;> cases q <;> rfl
    · intro h; have h : p = q := by simpa using h
      rw [h]
    · show some (p == p) = _
      rw [beq_self_eq_true]
  · cases d <;> exact hd.elim

theorem KA.symm {e f : Value × Value} (h : KA e f) : KA f e := by
  unfold KA at *
  obtain ⟨x, _⟩ := e
  obtain ⟨y, _⟩ := f
  simp only at *
  cases x <;> simp only [keyEq] at h <;> try cases h
  · exact (key_eq (c := .bool) (d := .bool) trivial h).2.1
  · exact (key_eq (c := .int) (d := .int .i64) trivial h).2.1
  · exact (key_eq (c := .str) (d := .string) trivial h).2.1
/-- A key that is the key of one entry is no other one's. -/
theorem KA.key {c : CK} {d : TypeDesc} (hd : ckType c d) {x : Value} {e f : Value × Value} (h : KA e f) (hx : keyEq (some [c]) x e.1 = some true) : keyEq (some [c]) x f.1 = some false := by
  obtain ⟨_, _, h3, _, _, _, _⟩ := key_eq hd hx
  have h3 := h3 rfl
  unfold KA at h
  rw [← h3] at h
  rw [← h3] at hx
  clear h3
  rw [keyOne] at hx ⊢
  cases x <;> simp only [keyEq] at h <;> try cases h
  all_goals cases c <;> simp only [cellEq] at hx ⊢ <;> first | exact h | (simp [asInt, asStr, asBool] at hx; done) | exact hd.elim | (cases d <;> exact hd.elim)

theorem keyFind_cons (ks : Option (List CK)) (k : Value) (e : Value × Value) (l : List (Value × Value)) : keyFind ks k (e :: l) = ob (keyEq ks k e.1) fun b => cnd b (some (some e)) (keyFind ks k l) := rfl
theorem keyPut_cons (ks : Option (List CK)) (k w : Value) (e : Value × Value) (l : List (Value × Value)) : keyPut ks k w (e :: l) = ob (keyEq ks k e.1) fun b => cnd b (some ((k, w) :: l)) (om (keyPut ks k w l) fun l => e :: l) := rfl
theorem keyDel_cons (ks : Option (List CK)) (k : Value) (e : Value × Value) (l : List (Value × Value)) : keyDel ks k (e :: l) = ob (keyEq ks k e.1) fun b => cnd b (some l) (om (keyDel ks k l) fun l => e :: l) := rfl

theorem keyFind_none {ks : Option (List CK)} {k : Value} : ∀ {l : List (Value × Value)}, keyFind ks k l = some none → ∀ e ∈ l, keyEq ks k e.1 = some false
  | [], _ => by simp
  | e :: l, h => by
    rw [keyFind_cons] at h
    obtain ⟨b, hb, h⟩ := ob_eq.1 h
    cases b with
    | true => cases h
    | false =>
      intro f hf
      rcases List.mem_cons.1 hf with rfl | hf
      · exact hb
      · exact keyFind_none h f hf
theorem keyFind_some {ks : Option (List CK)} {k : Value} : ∀ {l : List (Value × Value)} {e : Value × Value}, keyFind ks k l = some (some e) → keyEq ks k e.1 = some true ∧
      ∃ a b, l = a ++ e :: b ∧ (∀ w, keyPut ks k w l = some (a ++ (k, w) :: b)) ∧ keyDel ks k l = some (a ++ b)
  | [], e, h => by cases h
  | f :: l, e, h => by
    rw [keyFind_cons] at h
    obtain ⟨b, hb, h⟩ := ob_eq.1 h
    cases b with
    | true =>
      cases h
      refine ⟨hb, [], l, rfl, fun w => ?_, ?_⟩
      · rw [keyPut_cons, hb]; rfl
      · rw [keyDel_cons, hb]; rfl
    | false =>
      obtain ⟨h1, a, b, rfl, h2, h3⟩ := keyFind_some h
      refine ⟨h1, f :: a, b, rfl, fun w => ?_, ?_⟩
      · rw [keyPut_cons, hb]; simp [h2]
      · rw [keyDel_cons, hb]; simp [h3]
theorem keyNone {ks : Option (List CK)} {k : Value} : ∀ {l : List (Value × Value)}, (∀ e ∈ l, keyEq ks k e.1 = some false) → (∀ w, keyPut ks k w l = some (l ++ [(k, w)])) ∧ keyDel ks k l = some l
  | [], _ => ⟨fun _ => rfl, rfl⟩
  | e :: l, h => by
    have hb := h e (by simp)
    obtain ⟨h2, h3⟩ := keyNone (l := l) fun f hf => h f (by simp [hf])
    refine ⟨fun w => ?_, ?_⟩
    · rw [keyPut_cons, hb]; simp [h2]
    · rw [keyDel_cons, hb]; simp [h3]

section
variable {ι : Inj} {clk : Nat}
theorem ER.length {l : List (Value × Value)} {m : List MapEntry} (h : ER ι clk l m) : l.length = m.length := by
  induction h with
  | nil => rfl
  | cons _ _ _ _ ih => simp [ih]
theorem ER.split {a b : List (Value × Value)} {e : Value × Value} : ∀ {m : List MapEntry}, ER ι clk (a ++ e :: b) m → ∃ a' e' b', m = a' ++ e' :: b' ∧ ER ι clk a a' ∧ VR ι e.1 e'.key ∧ VR ι e.2 e'.val ∧ e'.born < clk ∧ ER ι clk b b' := by
  induction a with
  | nil =>
    intro m h
    cases h with
    | cons h1 h2 h3 t => exact ⟨[], _, _, rfl, .nil, h1, h2, h3, t⟩
  | cons f a ih =>
    intro m h
    cases h with
    | cons h1 h2 h3 t =>
      obtain ⟨a', e', b', rfl, g1, g2, g3, g4, g5⟩ := ih t
      exact ⟨_ :: a', e', b', rfl, .cons h1 h2 h3 g1, g2, g3, g4, g5⟩
theorem ER.append {a b : List (Value × Value)} {m n : List MapEntry} (h : ER ι clk a m) (h' : ER ι clk b n) : ER ι clk (a ++ b) (m ++ n) := by
  induction h with
  | nil => exact h'
  | cons h1 h2 h3 _ ih => exact .cons h1 h2 h3 ih
theorem ER.up {c : Nat} (hc : clk ≤ c) {a : List (Value × Value)} {m : List MapEntry} (h : ER ι clk a m) : ER ι c a m := by
  induction h with
  | nil => exact .nil
  | cons h1 h2 h3 _ ih => exact .cons h1 h2 (by omega) ih
theorem ER.born {a : List (Value × Value)} {m : List MapEntry} (h : ER ι clk a m) : ∀ e ∈ m, e.born < clk := by
  induction h with
  | nil => simp
  | cons h1 h2 h3 _ ih =>
    intro e he
    rcases List.mem_cons.1 he with rfl | he
    · exact h3
    · exact ih e he

theorem findNow_no {c : CK} {d : TypeDesc} (hd : ckType c d) {k k' : Value} (hk : VR ι k k') : ∀ {l : List (Value × Value)} {m : List MapEntry}, ER ι clk l m → (∀ e ∈ l, keyEq (some [c]) k e.1 = some false) → ∀ (t : List MapEntry) (i : Nat),
    Instr.findNow d k' (m ++ t) i = Instr.findNow d k' t (i + l.length) := by
  intro l m h
  induction h with
  | nil => intro _ t i; rfl
  | cons h1 h2 h3 _ ih =>
    intro hall t i
    obtain ⟨_, _, _, g4, g5, g6, _⟩ := key_eq hd (hall _ List.mem_cons_self)
    rw [List.cons_append, Instr.findNow, g5 _ _ hk, g6 _ _ h1, g4]
    simp only
    have := ih (fun e he => hall e (by simp [he])) t (i + 1)
    rw [g5 _ _ hk] at this
    rw [this]
    congr 1
    simp only [List.length_cons]; omega
end

section
variable {P : Program} {ι : Inj} {w : World} {base : Nat} {s : St} {o : Oper} {ρ : Operand → Value}

/-- What the model finds where the machine finds something, or nothing. -/
theorem find_ok {c : CK} {d : TypeDesc} (hd : ckType c d) {k k' : Value} (hk : VR ι k k') {es : List (Value × Value)} {clk : Nat} {es' : Array MapEntry} (he : entsR ι es clk es') {r : Option (Value × Value)} (h : keyFind (some [c]) k es = some r) :
    (r = none ∧ Instr.findNow d k' es'.toList 0 = some none ∧ ∀ e ∈ es, keyEq (some [c]) k e.1 = some false) ∨
    ∃ e p1 p2 a' e' b', r = some e ∧ (p1 ++ e :: p2).Perm es ∧ es'.toList = a' ++ e' :: b' ∧ ER ι clk p1 a' ∧ VR ι e.1 e'.key ∧ VR ι e.2 e'.val ∧ e'.born < clk ∧ ER ι clk p2 b' ∧ e.1 = k ∧ e'.key = k' ∧
      Instr.findNow d k' es'.toList 0 = some (some (a'.length, e'.val)) := by
  obtain ⟨h1, ⟨p, hp, her⟩, h3⟩ := he
  cases r with
  | none =>
    have hall := keyFind_none h
    refine .inl ⟨rfl, ?_, hall⟩
    have := findNow_no hd hk her (fun e he => hall e (hp.mem_iff.1 he)) [] 0
    rw [List.append_nil] at this
    rw [this]; rfl
  | some e =>
    obtain ⟨g1, a, b, rfl, _, _⟩ := keyFind_some h
    have hmem : e ∈ p := hp.mem_iff.2 (by simp)
    obtain ⟨p1, p2, rfl⟩ := List.append_of_mem hmem
    have hpw : (p1 ++ e :: p2).Pairwise KA := (hp.pairwise_iff (fun h => KA.symm h)).2 h1
    obtain ⟨a', e', b', hm, k1, k2, k3, k4, k5⟩ := her.split
    refine .inr ⟨e, p1, p2, a', e', b', rfl, hp, hm, k1, k2, k3, k4, k5, ?_⟩
    obtain ⟨q1, q2, q3, q4, q5, q6, q7⟩ := key_eq hd g1
    have q3 := q3 rfl
    have hk' := q5 _ _ hk
    have he' := q6 _ _ k2
    refine ⟨q3.symm, by rw [he', hk', q3], ?_⟩
    rw [hm, findNow_no hd hk k1 ?_, Instr.findNow, hk', he', q4]
    · simp [k1.length]
    · intro f hf
      have : KA f e := (List.pairwise_append.1 hpw).2.2 f hf e (by simp)
      exact this.symm.key hd g1
end
end Go.Ev
