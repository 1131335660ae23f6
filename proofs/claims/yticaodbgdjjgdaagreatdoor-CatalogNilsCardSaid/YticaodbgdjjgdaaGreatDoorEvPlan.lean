/-
  What is checked of a region whose order is open.
-/
import Derived.Test.YticaodbgdjjgdaaGreatDoorEvTrace
set_option linter.unusedVariables false
set_option linter.unusedSimpArgs false
namespace Go.Ev
open Go (Sem)

def Bit (ops : Array Oper) (i j : Nat) : Prop := ((Region.before ops).getD i 0).testBit j = true

structure Plan (P : Program) (nt : Nat) (ops : Array Oper) (L : List COper) (pos : Nat → Nat) : Prop where
  len : L.length = ops.size
  op : ∀ (k : Nat) (x : COper), L[k]? = some x → ∃ o x0, ops[x.ix]? = some o ∧ rOper P nt ops o x.ix = some x0 ∧ x.dst = x0.dst ∧ x.op = x0.op ∧ x.guard = x0.guard ∧ pos x.ix = k
  at_ : ∀ i : Nat, i < ops.size → ∃ x, L[pos i]? = some x ∧ x.ix = i
  lin : ∀ (k k' : Nat) (x x' : COper), L[k]? = some x → L[k']? = some x' → k < k' → ¬ Bit ops x.ix x'.ix
  self : ∀ (k : Nat) (x : COper), L[k]? = some x → ¬ Bit ops x.ix x.ix
  one : ∀ (i j : Nat) (o o' : Oper) (t : Nat), ops[i]? = some o → ops[j]? = some o' → o.dst = some t → o'.dst = some t → i = j
  inside : ∀ (i : Nat) (o : Oper), ops[i]? = some o → ∀ e ∈ o.after, e.on < ops.size
  before : ∀ (i : Nat) (o : Oper) (t : Nat), ops[i]? = some o → t ∈ readsOf ops o → ∀ (j : Nat) (o' : Oper), ops[j]? = some o' → o'.dst = some t → Bit ops i j ∨ (isMove o.op = true ∧ Bit ops j i)
  ww : ∀ (k k' : Nat) (x x' : COper), L[k]? = some x → L[k']? = some x' → x.ix ≠ x'.ix → x.op.cl = .w → x'.op.cl = .w → Bit ops x.ix x'.ix ∨ Bit ops x'.ix x.ix
  nw : ∀ (k k' : Nat) (x x' : COper), L[k]? = some x → L[k']? = some x' → x.ix ≠ x'.ix → x.op.cl = .n → x'.op.cl = .w → k' < k ∨ Bit ops x.ix x'.ix ∨ Bit ops x'.ix x.ix
  lw : ∀ (k k' : Nat) (x x' : COper), L[k]? = some x → L[k']? = some x' → x.ix ≠ x'.ix → x.op.cl = .l → x'.op.cl = .w → k < k' ∨ Bit ops x.ix x'.ix ∨ Bit ops x'.ix x.ix
  ln : ∀ (k k' : Nat) (x x' : COper), L[k]? = some x → L[k']? = some x' → x.ix ≠ x'.ix → x.op.cl = .l → x'.op.cl = .n → k < k' ∨ Bit ops x.ix x'.ix ∨ Bit ops x'.ix x.ix
  again : ∀ (k k' : Nat) (x x' : COper), L[k]? = some x → L[k']? = some x' → x.ix ≠ x'.ix → x.op.cl = .w → x'.op.cl = .l → ¬ Bit ops x.ix x'.ix → ¬ Bit ops x'.ix x.ix → (x'.dst, x'.op, x'.guard) ∈ x.again

theorem distinct_eq {l : List Nat} (h : distinct l = true) : l.Nodup := by
  induction l with
  | nil => exact .nil
  | cons x l ih =>
    simp only [distinct, Bool.and_eq_true, Bool.not_eq_true'] at h
    rw [List.nodup_cons]
    exact ⟨by simpa using h.1, ih h.2⟩

theorem mapM_get {α β : Type} {f : α → Option β} : ∀ {l : List α} {m : List β}, l.mapM f = some m → m.length = l.length ∧ ∀ (k : Nat) (a : α), l[k]? = some a → ∃ b, m[k]? = some b ∧ f a = some b := by
  intro l
  induction l with
  | nil => intro m h; simp at h; subst h; simp
  | cons x l ih =>
    intro m h
    rw [List.mapM_cons] at h
    obtain ⟨y, hy, h⟩ := Option.bind_eq_some_iff.1 h
    obtain ⟨ys, hys, h⟩ := Option.bind_eq_some_iff.1 h
    cases h
    obtain ⟨h1, h2⟩ := ih hys
    refine ⟨by simp [h1], ?_⟩
    intro k a ha
    cases k with
    | zero => simp only [List.getElem?_cons_zero, Option.some.injEq] at ha; subst ha; exact ⟨y, by simp, hy⟩
    | succ k =>
      obtain ⟨b, h3, h4⟩ := h2 k a (by simpa using ha)
      exact ⟨b, by simpa using h3, h4⟩

theorem once_eq {ops : Array Oper} (h : once ops (Region.before ops) = true) :
    (∀ (i j : Nat) (o o' : Oper) (t : Nat), ops[i]? = some o → ops[j]? = some o' → o.dst = some t → o'.dst = some t → i = j) ∧
    (∀ (i : Nat) (o : Oper) (t : Nat), ops[i]? = some o → t ∈ readsOf ops o → ∀ (j : Nat) (o' : Oper), ops[j]? = some o' → o'.dst = some t → Bit ops i j ∨ (isMove o.op = true ∧ Bit ops j i)) ∧
    (∀ (i : Nat) (o : Oper), ops[i]? = some o → ∀ e ∈ o.after, e.on < ops.size) := by
  unfold once at h
  rw [Bool.and_eq_true, Bool.and_eq_true] at h
  obtain ⟨⟨h1, h2⟩, h3⟩ := h
  refine ⟨?_, ?_, fun i o hi e he => ?_⟩
  rotate_left 2
  · have h4 := List.all_eq_true.1 h3 o (by rw [List.mem_iff_getElem?]; exact ⟨i, by rw [Array.getElem?_toList]; exact hi⟩)
    have h5 := List.all_eq_true.1 h4 e (by simpa using he)
    simpa using h5
  · have hnd := distinct_eq h1
    have key : ∀ (l : List Oper), (l.filterMap (·.dst)).Nodup → ∀ (i j : Nat) (o o' : Oper) (t : Nat), l[i]? = some o → l[j]? = some o' → o.dst = some t → o'.dst = some t → i = j := by
      intro l
      induction l with
      | nil => intro _ i j o o' t h; simp at h
      | cons x l ih =>
        intro hn i j o o' t hi hj ho ho'
        have hn2 : (l.filterMap (·.dst)).Nodup := by
          rw [List.filterMap_cons] at hn
          split at hn
          · exact hn
          · exact (List.nodup_cons.1 hn).2
        have clash : ∀ (k : Nat) (o2 : Oper), x.dst = some t → l[k]? = some o2 → o2.dst = some t → False := by
          intro k o2 hx hk ho2
          rw [List.filterMap_cons, hx] at hn
          exact (List.nodup_cons.1 hn).1 (List.mem_filterMap.2 ⟨o2, List.mem_of_getElem? hk, ho2⟩)
        cases i with
        | zero =>
          cases j with
          | zero => rfl
          | succ j =>
            simp only [List.getElem?_cons_zero, Option.some.injEq] at hi
            subst hi
            exact (clash j o' ho (by simpa using hj) ho').elim
        | succ i =>
          cases j with
          | zero =>
            simp only [List.getElem?_cons_zero, Option.some.injEq] at hj
            subst hj
            exact (clash i o ho' (by simpa using hi) ho).elim
          | succ j =>
            rw [ih hn2 i j o o' t (by simpa using hi) (by simpa using hj) ho ho']
    intro i j o o' t hi hj
    exact key ops.toList hnd i j o o' t (by rw [Array.getElem?_toList]; exact hi) (by rw [Array.getElem?_toList]; exact hj)
  · intro i o t hi ht j o' hj hd
    have mem : ∀ (k : Nat) (q : Oper), ops[k]? = some q → (q, k) ∈ ops.toList.zipIdx := by
      intro k q hq
      rw [List.mem_iff_getElem?]
      refine ⟨k, ?_⟩
      rw [List.getElem?_zipIdx, Array.getElem?_toList, hq]
      simp
    have h3 := List.all_eq_true.1 h2 _ (mem i o hi)
    have h4 := List.all_eq_true.1 h3 t ht
    have h5 := List.all_eq_true.1 h4 _ (mem j o' hj)
    simp only [hd, bne_self_eq_false, Bool.false_or, Bool.or_eq_true, Bool.and_eq_true] at h5
    exact h5

theorem plan_good {P : Program} {nt : Nat} {ops : Array Oper} {l L : List COper} {order : List Nat} {pos : Nat → Nat} (hl : ops.toList.zipIdx.mapM (fun (o, i) => rOper P nt ops o i) = some l) (ho : once ops (Region.before ops) = true)
    (hg : good ops (Region.before ops) l.toArray order pos = true) (hL : look (Region.before ops) l.toArray order = some L) : Plan P nt ops L pos := by
  obtain ⟨hl1, hl2⟩ := mapM_get hl
  rw [List.length_zipIdx, Array.length_toList] at hl1
  have hsz : l.toArray.size = ops.size := by rw [List.size_toArray]; exact hl1
  -- the resolved operations of the text
  have hop : ∀ (i : Nat) (x0 : COper), l[i]? = some x0 → ∃ o, ops[i]? = some o ∧ rOper P nt ops o i = some x0 ∧ x0.ix = i := by
    intro i x0 hx
    have hi : i < ops.size := by
      have h1 := (List.getElem?_eq_some_iff.1 hx).1
      have h2 : l.length = ops.size := by rw [← hsz, List.size_toArray]
      exact h2 ▸ h1
    obtain ⟨b, h1, h2⟩ := hl2 i (ops[i], i) (by rw [List.getElem?_zipIdx, Array.getElem?_toList, Array.getElem?_eq_getElem hi]; simp)
    rw [hx] at h1
    cases h1
    obtain ⟨_, _, e, _⟩ := rOper_eq h2
    exact ⟨ops[i], Array.getElem?_eq_getElem hi, h2, by rw [e]⟩
  unfold good at hg
  rw [Bool.and_eq_true, Bool.and_eq_true, hsz] at hg
  obtain ⟨⟨g1, g2⟩, g3⟩ := hg
  unfold isOrder at g1
  simp only [Bool.and_eq_true, beq_iff_eq] at g1
  obtain ⟨⟨o1, o2⟩, o3⟩ := g1
  unfold isPos at g2
  rw [Bool.and_eq_true] at g2
  obtain ⟨p1, p2⟩ := g2
  obtain ⟨k1, k2⟩ := mapM_get hL
  have pmem : ∀ k i : Nat, order[k]? = some i → pos i = k ∧ i < ops.size := by
    intro k i hk
    have := List.all_eq_true.1 p1 (i, k) (by rw [List.mem_iff_getElem?]; exact ⟨k, by rw [List.getElem?_zipIdx, hk]; simp⟩)
    simp only [Bool.and_eq_true, beq_iff_eq, decide_eq_true_eq] at this
    exact this
  have pat : ∀ i : Nat, i < ops.size → order[pos i]? = some i := by
    intro i hi
    have := List.all_eq_true.1 p2 i (List.mem_range.2 hi)
    simpa using this
  -- what stands in the order
  have hat : ∀ (k : Nat) (x : COper), L[k]? = some x → ∃ i x0, order[k]? = some i ∧ l[i]? = some x0 ∧ x.ix = i ∧ x.dst = x0.dst ∧ x.op = x0.op ∧ x.guard = x0.guard ∧
      (x.op.cl = .w → x.again = (List.range l.toArray.size).filterMap fun i => (l.toArray[i]?).bind fun c => if c.op.cl == .l && apart (Region.before ops) i x.ix then some (c.dst, c.op, c.guard) else none) := by
    intro k x hx
    have hk : k < order.length := by rw [← k1]; exact (List.getElem?_eq_some_iff.1 hx).1
    obtain ⟨y, h1, h2⟩ := k2 k order[k] (List.getElem?_eq_getElem hk)
    rw [hx] at h1
    cases h1
    obtain ⟨x0, h3, h4⟩ := Option.map_eq_some_iff.1 h2
    rw [List.getElem?_toArray] at h3
    obtain ⟨_, _, _, hix⟩ := hop _ _ h3
    refine ⟨order[k], x0, List.getElem?_eq_getElem hk, h3, ?_⟩
    subst h4
    split
    · rename_i hw
      refine ⟨hix, rfl, rfl, rfl, fun _ => ?_⟩
      simp only [hix]
    · rename_i hw
      exact ⟨hix, rfl, rfl, rfl, fun h => absurd h hw⟩
  have hL' : ∀ i : Nat, i < ops.size → ∃ x, L[pos i]? = some x ∧ x.ix = i := by
    intro i hi
    have h1 := pat i hi
    have hlt : pos i < L.length := by rw [k1]; exact (List.getElem?_eq_some_iff.1 h1).1
    refine ⟨L[pos i], List.getElem?_eq_getElem hlt, ?_⟩
    obtain ⟨i', x0, h2, _, h3, _⟩ := hat _ _ (List.getElem?_eq_getElem hlt)
    rw [h1] at h2; cases h2
    exact h3
  have hclass : ∀ (k : Nat) (x : COper), L[k]? = some x → x.ix < ops.size ∧ pos x.ix = k ∧ (l.toArray.map (·.op.cl)).getD x.ix .p = x.op.cl := by
    intro k x hx
    obtain ⟨i, x0, h1, h2, h3, h4, h5, h6, _⟩ := hat k x hx
    obtain ⟨h7, h8⟩ := pmem k i h1
    subst h3
    refine ⟨h8, h7, ?_⟩
    rw [Array.getD_eq_getD_getElem?, Array.getElem?_map, List.getElem?_toArray, h2, h5]
    rfl
  have hfine : ∀ (k k' : Nat) (x x' : COper), L[k]? = some x → L[k']? = some x' → x.ix ≠ x'.ix → x.op.cl ≠ .p → x'.op.cl ≠ .p → (match x.op.cl, x'.op.cl with
      | .w, .w => !apart (Region.before ops) x.ix x'.ix
      | .n, .w => decide (k' < k) || !apart (Region.before ops) x.ix x'.ix
      | .l, .w => decide (k < k') || !apart (Region.before ops) x.ix x'.ix
      | .l, .n => decide (k < k') || !apart (Region.before ops) x.ix x'.ix
      | _, _ => true) = true := by
    intro k k' x x' hx hx' hne hp hp'
    obtain ⟨c1, c2, c3⟩ := hclass k x hx
    obtain ⟨c1', c2', c3'⟩ := hclass k' x' hx'
    have loud : ∀ (y : COper), y.ix < ops.size → (l.toArray.map (·.op.cl)).getD y.ix .p = y.op.cl → y.op.cl ≠ .p → y.ix ∈ (List.range ops.size).filter fun i => (l.toArray.map (·.op.cl)).getD i .p != .p := by
      intro y h1 h2 h3
      rw [List.mem_filter]
      refine ⟨List.mem_range.2 h1, ?_⟩
      rw [h2]
      cases e : y.op.cl <;> first | exact absurd e h3 | rfl
    have h1 := List.all_eq_true.1 g3 x.ix (loud x c1 c3 hp)
    have h2 := List.all_eq_true.1 h1 x'.ix (loud x' c1' c3' hp')
    rw [c3, c3'] at h2
    simp only [c2, c2'] at h2
    rw [Bool.or_eq_true] at h2
    rcases h2 with h2 | h2
    · exact absurd (by simpa using h2) hne
    · exact h2
  have hap : ∀ i j, apart (Region.before ops) i j = false → Bit ops i j ∨ Bit ops j i := by
    intro i j h
    unfold apart at h
    unfold Bit
    cases h1 : ((Region.before ops).getD i 0).testBit j
    · cases h2 : ((Region.before ops).getD j 0).testBit i
      · rw [h1, h2] at h; cases h
      · exact .inr rfl
    · exact .inl rfl
  obtain ⟨one1, one2, one3⟩ := once_eq ho
  refine ⟨by rw [k1]; exact o1, ?_, hL', ?_, ?_, one1, one3, one2, ?_, ?_, ?_, ?_, ?_⟩
  · intro k x hx
    obtain ⟨i, x0, h1, h2, h3, h4, h5, h6, _⟩ := hat k x hx
    obtain ⟨o, h7, h8, _⟩ := hop i x0 h2
    subst h3
    exact ⟨o, x0, h7, h8, h4, h5, h6, (pmem k _ h1).1⟩
  · intro k k' x x' hx hx' hlt hbit
    obtain ⟨i, x0, h1, _, h3, _⟩ := hat k x hx
    obtain ⟨i', x0', h1', _, h3', _⟩ := hat k' x' hx'
    subst h3; subst h3'
    have := List.all_eq_true.1 o3 (x.ix, k) (by rw [List.mem_iff_getElem?]; exact ⟨k, by rw [List.getElem?_zipIdx, h1]; simp⟩)
    have := List.all_eq_true.1 this x'.ix (by
      rw [List.mem_iff_getElem?]
      exact ⟨k' - k, by rw [List.getElem?_drop, show k + (k' - k) = k' by omega]; exact h1'⟩)
    unfold Bit at hbit
    rw [hbit] at this
    cases this
  · intro k x hx hbit
    obtain ⟨i, x0, h1, _, h3, _⟩ := hat k x hx
    subst h3
    have := List.all_eq_true.1 o3 (x.ix, k) (by rw [List.mem_iff_getElem?]; exact ⟨k, by rw [List.getElem?_zipIdx, h1]; simp⟩)
    have := List.all_eq_true.1 this x.ix (by
      rw [List.mem_iff_getElem?]
      exact ⟨0, by rw [List.getElem?_drop, Nat.add_zero]; exact h1⟩)
    unfold Bit at hbit
    rw [hbit] at this
    cases this
  · intro k k' x x' hx hx' hne h1 h2
    have := hfine k k' x x' hx hx' hne (by rw [h1]; simp) (by rw [h2]; simp)
    rw [h1, h2] at this
    exact hap _ _ (by simpa using this)
  · intro k k' x x' hx hx' hne h1 h2
    have := hfine k k' x x' hx hx' hne (by rw [h1]; simp) (by rw [h2]; simp)
    rw [h1, h2] at this
    simp only [Bool.or_eq_true, decide_eq_true_eq, Bool.not_eq_true'] at this
    exact this.imp id (hap _ _)
  · intro k k' x x' hx hx' hne h1 h2
    have := hfine k k' x x' hx hx' hne (by rw [h1]; simp) (by rw [h2]; simp)
    rw [h1, h2] at this
    simp only [Bool.or_eq_true, decide_eq_true_eq, Bool.not_eq_true'] at this
    exact this.imp id (hap _ _)
  · intro k k' x x' hx hx' hne h1 h2
    have := hfine k k' x x' hx hx' hne (by rw [h1]; simp) (by rw [h2]; simp)
    rw [h1, h2] at this
    simp only [Bool.or_eq_true, decide_eq_true_eq, Bool.not_eq_true'] at this
    exact this.imp id (hap _ _)
  · intro k k' x x' hx hx' hne h1 h2 n1 n2
    obtain ⟨i, x0, _, _, _, _, _, _, hag⟩ := hat k x hx
    obtain ⟨i', x0', e1, e2, e3, e4, e5, e6, _⟩ := hat k' x' hx'
    obtain ⟨c1', _, _⟩ := hclass k' x' hx'
    rw [hag h1, List.mem_filterMap]
    refine ⟨x'.ix, List.mem_range.2 (by rw [hsz]; exact c1'), ?_⟩
    subst e3
    rw [List.getElem?_toArray, e2]
    have ha : apart (Region.before ops) x'.ix x.ix = true := by
      unfold apart
      unfold Bit at n1 n2
      rw [Bool.eq_false_iff.2 n2, Bool.eq_false_iff.2 n1]
      rfl
    simp only [Option.bind_some]
    rw [← e5, h2, ha, e4, e6]
    rfl
end Go.Ev
