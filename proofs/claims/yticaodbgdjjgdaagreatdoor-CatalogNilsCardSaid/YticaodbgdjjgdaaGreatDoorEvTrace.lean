/-
  A region's run, step by step; what 'before' tells.
-/
import Derived.Test.YticaodbgdjjgdaaGreatDoorEvSame
import Derived.Test.YticaodbgdjjgdaaGreatDoorEvCls
import Derived.Orders
set_option linter.unusedVariables false
set_option linter.unusedSimpArgs false
namespace Go.Ev
open Go (Sem)

noncomputable def wants (x : COper) (fr : Fr) : Bool := Option.rec true (fun g => wanted g fr) x.guard

/-- The frames, the states and the values of a run. -/
structure Trace (call : Caller) (round : Rounder) (b : Nat) (L : List COper) (F : Nat → Fr) (T : Nat → St) (V : Nat → Value) : Prop where
  frame : ∀ k x, L[k]? = some x → F (k + 1) = putD (F k) x.dst (V k)
  yes : ∀ k x, L[k]? = some x → wants x (F k) = true → (oneOp x.op).run call round (F k) (T k) (b + x.ix) = some (V k, T (k + 1)) ∧ againOk (F k) (T (k + 1)) x.again = true
  no : ∀ k x, L[k]? = some x → wants x (F k) = false → V k = undef ∧ T (k + 1) = T k

theorem trace_of {call : Caller} {round : Rounder} {b : Nat} : ∀ (L : List COper) (fr fr' : Fr) (s s' : St), runOps call round b L fr s = some (fr', s') →
    ∃ F T V, Trace call round b L F T V ∧ F 0 = fr ∧ T 0 = s ∧ F L.length = fr' ∧ T L.length = s' := by
  intro L
  induction L with
  | nil =>
    intro fr fr' s s' h
    cases h
    exact ⟨fun _ => fr, fun _ => s, fun _ => undef, ⟨fun k x h => by simp at h, fun k x h => by simp at h, fun k x h => by simp at h⟩, rfl, rfl, rfl, rfl⟩
  | cons x L ih =>
    intro fr fr' s s' h
    have h : stepOp call round b x (runOps call round b L) fr s = some (fr', s') := h
    have key : ∃ v s1, runOps call round b L (putD fr x.dst v) s1 = some (fr', s') ∧ (wants x fr = true → (oneOp x.op).run call round fr s (b + x.ix) = some (v, s1) ∧ againOk fr s1 x.again = true) ∧ (wants x fr = false → v = undef ∧ s1 = s) := by
      have hdo : doOp call round b x (runOps call round b L) fr s = some (fr', s') → ∃ v s1, runOps call round b L (putD fr x.dst v) s1 = some (fr', s') ∧ (oneOp x.op).run call round fr s (b + x.ix) = some (v, s1) ∧ againOk fr s1 x.again = true := by
        intro h
        unfold doOp at h
        cases e : (oneOp x.op).run call round fr s (b + x.ix) with
        | none => rw [e] at h; cases h
        | some r =>
          obtain ⟨v, s1⟩ := r
          rw [e] at h
          refine ⟨v, s1, ?_, rfl, ?_⟩
          · cases ea : x.again with
            | nil => rw [ea] at h; exact h
            | cons y ys => rw [ea] at h; exact (must_eq.1 h).2
          · cases ea : x.again with
            | nil => rfl
            | cons y ys => rw [ea] at h; exact (must_eq.1 h).1
      unfold stepOp at h
      unfold wants
      cases eg : x.guard with
      | none =>
        rw [eg] at h
        obtain ⟨v, s1, g1, g2, g3⟩ := hdo h
        exact ⟨v, s1, g1, fun _ => ⟨g2, g3⟩, fun h => by cases h⟩
      | some g =>
        rw [eg] at h
        cases ew : wanted g fr with
        | true =>
          have h : doOp call round b x (runOps call round b L) fr s = some (fr', s') := by
            have h : (Bool.rec (runOps call round b L (putD fr x.dst undef) s) (doOp call round b x (runOps call round b L) fr s) (wanted g fr) : RF) = some (fr', s') := h
            rw [ew] at h; exact h
          obtain ⟨v, s1, g1, g2, g3⟩ := hdo h
          exact ⟨v, s1, g1, fun _ => ⟨g2, g3⟩, fun h => by simp [ew] at h⟩
        | false =>
          have h : (Bool.rec (runOps call round b L (putD fr x.dst undef) s) (doOp call round b x (runOps call round b L) fr s) (wanted g fr) : RF) = some (fr', s') := h
          rw [ew] at h
          exact ⟨undef, s, h, fun h => by simp [ew] at h, fun _ => ⟨rfl, rfl⟩⟩
    obtain ⟨v, s1, h1, h2, h3⟩ := key
    obtain ⟨F, T, V, ht, hF, hT, hF', hT'⟩ := ih _ _ _ _ h1
    refine ⟨fun k => Nat.casesOn k fr F, fun k => Nat.casesOn k s T, fun k => Nat.casesOn k v V, ⟨?_, ?_, ?_⟩, rfl, rfl, hF', hT'⟩
    · intro k y hy
      cases k with
      | zero =>
        simp only [List.getElem?_cons_zero, Option.some.injEq] at hy
        subst hy
        exact hF
      | succ k => exact ht.frame k y (by simpa using hy)
    · intro k y hy hw
      cases k with
      | zero =>
        simp only [List.getElem?_cons_zero, Option.some.injEq] at hy
        subst hy
        have := h2 hw
        show (oneOp x.op).run call round fr s (b + x.ix) = some (v, T 0) ∧ againOk fr (T 0) x.again = true
        rw [hT]; exact this
      | succ k => exact ht.yes k y (by simpa using hy) hw
    · intro k y hy hw
      cases k with
      | zero =>
        simp only [List.getElem?_cons_zero, Option.some.injEq] at hy
        subst hy
        have := h3 hw
        show v = undef ∧ T 0 = s
        rw [hT]; exact this
      | succ k => exact ht.no k y (by simpa using hy) hw

/- before -/
def maskOf (acc : Array Nat) (o : Oper) : Nat := o.after.foldl (fun s e => if Region.binds .any e then s ||| 2 ^ e.on ||| acc.getD e.on 0 else s) 0
theorem before_eq (ops : Array Oper) : Region.before ops = ops.foldl (fun acc o => acc.push (maskOf acc o)) #[] := rfl

theorem mask_bit {acc : Array Nat} {o : Oper} {j : Nat} (h : (maskOf acc o).testBit j = true) : ∃ e ∈ o.after, Region.binds .any e = true ∧ (e.on = j ∨ (acc.getD e.on 0).testBit j = true) := by
  unfold maskOf at h
  rw [← Array.foldl_toList] at h
  have : ∀ (l : List Edge) (s : Nat), (l.foldl (fun s e => if Region.binds .any e then s ||| 2 ^ e.on ||| acc.getD e.on 0 else s) s).testBit j = true → s.testBit j = true ∨ ∃ e ∈ l, Region.binds .any e = true ∧ (e.on = j ∨ (acc.getD e.on 0).testBit j = true) := by
    intro l
    induction l with
    | nil => intro s h; exact .inl h
    | cons e l ih =>
      intro s h
      rw [List.foldl_cons] at h
      rcases ih _ h with h | ⟨e', h1, h2⟩
      · split at h
        · rename_i hb
          rw [Nat.testBit_or, Nat.testBit_or, Bool.or_eq_true, Bool.or_eq_true] at h
          rcases h with (h | h) | h
          · exact .inl h
          · right
            rw [Nat.testBit_two_pow] at h
            exact ⟨e, by simp, hb, .inl (by simpa using h)⟩
          · exact .inr ⟨e, by simp, hb, .inr h⟩
        · exact .inl h
      · exact .inr ⟨e', by simp [h1], h2⟩
  rcases this _ _ h with h | ⟨e, h1, h2⟩
  · simp at h
  · exact ⟨e, by simpa using h1, h2⟩

theorem before_bit {ops : Array Oper} {i j : Nat} (h : ((Region.before ops).getD i 0).testBit j = true) : ∃ o, ops[i]? = some o ∧ ∃ e ∈ o.after, Region.binds .any e = true ∧ (e.on = j ∨ (e.on < i ∧ ((Region.before ops).getD e.on 0).testBit j = true)) := by
  rw [before_eq, ← Array.foldl_toList] at h
  have key : ∀ (l pre : List Oper) (acc : Array Nat), acc.size = pre.length → (∀ k, k < acc.size → ∀ j, (acc.getD k 0).testBit j = true → ∃ o, pre[k]? = some o ∧ ∃ e ∈ o.after, Region.binds .any e = true ∧ (e.on = j ∨ (e.on < k ∧ (acc.getD e.on 0).testBit j = true))) →
      (l.foldl (fun acc o => acc.push (maskOf acc o)) acc).size = (pre ++ l).length ∧ ∀ k, k < (pre ++ l).length → ∀ j, ((l.foldl (fun acc o => acc.push (maskOf acc o)) acc).getD k 0).testBit j = true → ∃ o, (pre ++ l)[k]? = some o ∧ ∃ e ∈ o.after, Region.binds .any e = true ∧ (e.on = j ∨ (e.on < k ∧ ((l.foldl (fun acc o => acc.push (maskOf acc o)) acc).getD e.on 0).testBit j = true)) := by
    intro l
    induction l with
    | nil => intro pre acc h1 h2; simpa [h1] using h2
    | cons o l ih =>
      intro pre acc h1 h2
      have := ih (pre ++ [o]) (acc.push (maskOf acc o)) (by simp [h1]) ?_
      · simpa using this
      · intro k hk j hj
        rw [Array.size_push] at hk
        have hget : ∀ m, m < acc.size → (acc.push (maskOf acc o)).getD m 0 = acc.getD m 0 := by
          intro m hm
          simp [Array.getD_eq_getD_getElem?, Array.getElem?_push, Nat.ne_of_lt hm]
        rcases Nat.lt_or_ge k acc.size with hlt | hge
        · rw [hget k hlt] at hj
          obtain ⟨o', g1, e, g2, g3, g4⟩ := h2 k hlt j hj
          refine ⟨o', by rw [List.getElem?_append_left (by omega)]; exact g1, e, g2, g3, ?_⟩
          rcases g4 with g4 | ⟨g4, g5⟩
          · exact .inl g4
          · exact .inr ⟨g4, by rw [hget _ (by omega)]; exact g5⟩
        · obtain rfl : k = acc.size := by omega
          have : (acc.push (maskOf acc o)).getD acc.size 0 = maskOf acc o := by simp [Array.getD_eq_getD_getElem?]
          rw [this] at hj
          obtain ⟨e, g2, g3, g4⟩ := mask_bit hj
          refine ⟨o, by rw [h1]; simp, e, g2, g3, ?_⟩
          rcases g4 with g4 | g4
          · exact .inl g4
          · rcases Nat.lt_or_ge e.on acc.size with hl | hg
            · exact .inr ⟨hl, by rw [hget _ hl]; exact g4⟩
            · rw [Array.getD_eq_getD_getElem?, Array.getElem?_eq_none hg] at g4
              simp at g4
  obtain ⟨k1, k2⟩ := key ops.toList [] #[] rfl (fun k hk => by simp at hk)
  simp only [List.nil_append, Array.length_toList] at k1 k2
  have hi : i < ops.size := by
    rcases Nat.lt_or_ge i ops.size with h' | h'
    · exact h'
    · rw [Array.getD_eq_getD_getElem?, Array.getElem?_eq_none (by rw [k1]; exact h')] at h
      simp at h
  have := k2 i hi j h
  rw [Array.getElem?_toList] at this
  rw [before_eq, ← Array.foldl_toList]
  exact this

/-- A set of numbers that is closed under the edges is closed under 'before'. -/
theorem closed_bits {ops : Array Oper} {D : Nat → Prop} (hD : ∀ i o, D i → ops[i]? = some o → ∀ e ∈ o.after, Region.binds .any e = true → D e.on) : ∀ (i j : Nat), D i → ((Region.before ops).getD i 0).testBit j = true → D j := by
  intro i
  induction i using Nat.strongRecOn with
  | _ i ih =>
    intro j hi hj
    obtain ⟨o, h1, e, h2, h3, h4⟩ := before_bit hj
    have := hD i o hi h1 e h2 h3
    rcases h4 with rfl | ⟨h4, h5⟩
    · exact this
    · exact ih e.on h4 j this h5
end Go.Ev
