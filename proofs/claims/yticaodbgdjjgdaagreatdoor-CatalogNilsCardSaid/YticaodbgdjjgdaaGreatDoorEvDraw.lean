/-
  A region whose order is drawn: what holds when some are done.
-/
import Derived.Test.YticaodbgdjjgdaaGreatDoorEvPlan
set_option linter.unusedVariables false
set_option linter.unusedSimpArgs false
namespace Go.Ev
open Go (Sem)

/-- What an operation that makes leaves: at which number, which object. -/
def Made (L : List COper) (b : Nat) (F : Nat → Fr) (k : Nat) (x : COper) (ob : Ob) : Prop :=
  L[k]? = some x ∧ x.op.cl = .n ∧ wants x (F k) = true ∧ ∃ v, ∀ s, (cop x.op).run (F k) s (b + x.ix) = some (v, s.set (b + x.ix) ob)

/-- An operation that may write, and is wanted. -/
def Wr (L : List COper) (F : Nat → Fr) (k : Nat) (x : COper) : Prop := L[k]? = some x ∧ x.op.cl = .w ∧ wants x (F k) = true

/-- What holds when some are done. 'K': the place behind the last one that wrote. -/
structure Inv (ops : Array Oper) (L : List COper) (nt : Nat) (S : Nat → Prop) (b : Nat) (fr0 : Fr) (F : Nat → Fr) (T : Nat → St) (V : Nat → Value) (ι0 : Inj) (base : Nat) (w0 : World) (ds : List Deferred)
    (D : Nat → Prop) (a : Act) (w : World) (K : Nat) (U : Nat → Option Ob) (ι : Inj) : Prop where
  closed : ∀ (i : Nat) (o : Oper), D i → ops[i]? = some o → ∀ e ∈ o.after, Region.binds .any e = true → D e.on
  wOld : ∀ (k : Nat) (x : COper), Wr L F k x → (D x.ix ↔ k < K)
  last : K = 0 ∨ ∃ x, Wr L F (K - 1) x ∧ D x.ix
  le : K ≤ L.length
  rel : RelF ι base U (T K).next w
  made : ∀ (k : Nat) (x : COper) (ob : Ob), Made L b F k x ob → D x.ix → K ≤ k → U (b + x.ix) = some ob
  rest : ∀ c : Nat, (∀ (k : Nat) (x : COper) (ob : Ob), Made L b F k x ob → D x.ix → K ≤ k → c ≠ b + x.ix) → U c = (T K).get c
  free : ∀ (k : Nat) (x : COper), L[k]? = some x → x.op.cl = .n → K ≤ k → (T K).get (b + x.ix) = none
  fresh : ∀ (k : Nat) (x : COper), L[k]? = some x → x.op.cl = .n → ¬ D x.ix → U (b + x.ix) = none ∧ ι (b + x.ix) = none
  tmpsNew : ∀ (k : Nat) (x : COper) (t : Nat), L[k]? = some x → D x.ix → x.dst = some t → VR ι (V k) (a.tmps.getD t Go.undef)
  tmpsOld : ∀ t : Nat, (∀ (k : Nat) (x : COper), L[k]? = some x → D x.ix → x.dst ≠ some t) → VR ι (orUndef (fr0.get t)) (a.tmps.getD t Go.undef)
  tsize : nt ≤ a.tmps.size
  defers : a.defers = ds
  ext : ExtF S ι0 base (T 0).get (T 0).next w0 ι U (T K).next w

section
variable {P : Program} {nt : Nat} {ops : Array Oper} {L : List COper} {pos : Nat → Nat} {call : Caller} {round : Rounder} {b : Nat} {F : Nat → Fr} {T : Nat → St} {V : Nat → Value}

theorem Made.one {k : Nat} {x : COper} {ob ob' : Ob} (h : Made L b F k x ob) (h' : Made L b F k x ob') : ob = ob' := by
  obtain ⟨_, _, _, v, h⟩ := h
  obtain ⟨_, _, _, v', h'⟩ := h'
  have := (h ⟨.e, 0⟩).symm.trans (h' ⟨.e, 0⟩)
  simp only [Option.some.injEq, Prod.mk.injEq] at this
  have e := congrArg (fun s => St.get s (b + x.ix)) this.2
  simp only [St.get_set, if_pos] at e
  exact Option.some.inj e

/-- Its place. -/
theorem Plan.place (hp : Plan P nt ops L pos) {k k' : Nat} {x x' : COper} (h : L[k]? = some x) (h' : L[k']? = some x') (e : x.ix = x'.ix) : k = k' := by
  obtain ⟨_, _, _, _, _, _, _, h1⟩ := hp.op k x h
  obtain ⟨_, _, _, _, _, _, _, h2⟩ := hp.op k' x' h'
  rw [← h1, ← h2, e]

theorem Plan.same {k : Nat} {x x' : COper} (h : L[k]? = some x) (h' : L[k]? = some x') : x = x' := Option.some.inj (h.symm.trans h')

/-- What a temporary holds along the run. -/
theorem frame_new (hp : Plan P nt ops L pos) (ht : Trace call round b L F T V) {k : Nat} {x : COper} {t : Nat} (hx : L[k]? = some x) (hd : x.dst = some t) : ∀ q, k < q → q ≤ L.length → (F q).get t = some (V k) := by
  intro q
  induction q with
  | zero => intro h; omega
  | succ q ih =>
    intro h1 h2
    have hy : L[q]? = some L[q] := List.getElem?_eq_getElem (by omega)
    rw [ht.frame q _ hy]
    by_cases e : k = q
    · subst e
      have := Plan.same hx hy
      rw [← this, hd]
      show (Tr.set (F k) t (V k)).get t = _
      rw [Tr.get_set, if_pos rfl]
    · have h3 := ih (by omega) (by omega)
      cases hd' : (L[q] : COper).dst with
      | none => exact h3
      | some t' =>
        show (Tr.set (F q) t' (V q)).get t = _
        rw [Tr.get_set]
        have hne : t' ≠ t := by
          rintro rfl
          obtain ⟨o, x0, g1, g2, g3, _⟩ := hp.op k x hx
          obtain ⟨o', x0', g1', g2', g3', _⟩ := hp.op q _ hy
          obtain ⟨_, _, e1, _⟩ := rOper_eq g2
          obtain ⟨_, _, e2, _⟩ := rOper_eq g2'
          have : x.ix = (L[q] : COper).ix := hp.one _ _ o o' t' g1 g1' (by rw [← hd, g3, e1]) (by rw [← hd', g3', e2])
          exact e (hp.place hx hy this)
        rw [if_neg hne]
        exact h3
theorem frame_old (ht : Trace call round b L F T V) {t : Nat} : ∀ q, q ≤ L.length → (∀ (k : Nat) (x : COper), L[k]? = some x → k < q → x.dst ≠ some t) → (F q).get t = (F 0).get t := by
  intro q
  induction q with
  | zero => intros; rfl
  | succ q ih =>
    intro h1 h2
    have hy : L[q]? = some L[q] := List.getElem?_eq_getElem (by omega)
    rw [ht.frame q _ hy]
    have h3 := ih (by omega) fun k x hx hk => h2 k x hx (by omega)
    cases hd : (L[q] : COper).dst with
    | none => exact h3
    | some t' =>
      show (Tr.set (F q) t' (V q)).get t = _
      rw [Tr.get_set, if_neg]
      · exact h3
      · rintro rfl
        exact h2 q _ hy (by omega) hd

/-- What is made is what the trace has. -/
theorem made_step (hnc : ∀ (k : Nat) (x : COper), L[k]? = some x → x.op.cl ≠ .w → isCall x.op = false) (ht : Trace call round b L F T V) {p : Nat} {x : COper} (hx : L[p]? = some x) (hc : x.op.cl = .n) (hw : wants x (F p) = true) :
    ∃ ob, Made L b F p x ob ∧ live ob = true ∧ T (p + 1) = (T p).set (b + x.ix) ob ∧ ∀ s, (cop x.op).run (F p) s (b + x.ix) = some (V p, s.set (b + x.ix) ob) := by
  obtain ⟨f, h1, h2⟩ := cls_n hc (F p) (b + x.ix)
  have h3 := (ht.yes p x hx hw).1
  rw [oneOp_eq (hnc p x hx (by rw [hc]; simp)), h1] at h3
  obtain ⟨⟨v, o⟩, hf, h6⟩ := om_eq.1 h3
  subst hf
  have h4 : (T p).set (b + x.ix) o = T (p + 1) := congrArg Prod.snd h6
  have h5 : v = V p := congrArg Prod.fst h6
  subst h5
  exact ⟨o, ⟨hx, hc, hw, V p, fun s => h1 s⟩, h2 _ rfl, h4.symm, fun s => h1 s⟩

/-- A stretch without one that writes. -/
theorem stretch (hp : Plan P nt ops L pos) (hnc : ∀ (k : Nat) (x : COper), L[k]? = some x → x.op.cl ≠ .w → isCall x.op = false) (ht : Trace call round b L F T V) {K : Nat} : ∀ p, K ≤ p → p ≤ L.length → (∀ (k : Nat) (x : COper), Wr L F k x → K ≤ k → p ≤ k) →
    (T p).next = (T K).next ∧ (∀ (k : Nat) (x : COper) (ob : Ob), Made L b F k x ob → K ≤ k → k < p → (T p).get (b + x.ix) = some ob) ∧
    (∀ c : Nat, (∀ (k : Nat) (x : COper) (ob : Ob), Made L b F k x ob → K ≤ k → k < p → c ≠ b + x.ix) → (T p).get c = (T K).get c) := by
  intro p
  induction p with
  | zero =>
    intro h1 h2 h3
    obtain rfl : K = 0 := by omega
    exact ⟨rfl, fun k x ob _ _ h => absurd h (by omega), fun c _ => rfl⟩
  | succ p ih =>
    intro h1 h2 h3
    by_cases e : K = p + 1
    · subst e
      exact ⟨rfl, fun k x ob _ h4 h5 => absurd h5 (by omega), fun c _ => rfl⟩
    obtain ⟨i1, i2, i3⟩ := ih (by omega) (by omega) fun k x hw hk => by have := h3 k x hw hk; omega
    have hy : L[p]? = some L[p] := List.getElem?_eq_getElem (by omega)
    generalize hyy : (L[p] : COper) = y at hy
    clear hyy
    -- where nothing is made the state is the same
    have same : (∀ ob, ¬ Made L b F p y ob) → T (p + 1) = T p := by
      intro hm
      cases hw : wants y (F p) with
      | false => exact (ht.no p y hy hw).2
      | true =>
        have h4 := (ht.yes p y hy hw).1
        cases hc : y.op.cl with
        | w => exact absurd (h3 p y ⟨hy, hc, hw⟩ (by omega)) (by omega)
        | n =>
          obtain ⟨ob, h5, _⟩ := made_step hnc ht hy hc hw
          exact absurd h5 (hm ob)
        | p =>
          rw [oneOp_eq (hnc p y hy (by rw [hc]; simp))] at h4
          obtain ⟨f, h5⟩ := cls_p hc (F p)
          rw [h5] at h4
          obtain ⟨v, _, h6⟩ := om_eq.1 h4
          exact (congrArg Prod.snd h6).symm
        | l =>
          rw [oneOp_eq (hnc p y hy (by rw [hc]; simp))] at h4
          obtain ⟨f, h5⟩ := cls_l hc (F p) (T p)
          rw [h5] at h4
          obtain ⟨v, _, h6⟩ := om_eq.1 h4
          exact (congrArg Prod.snd h6).symm
    by_cases hm : ∃ ob, Made L b F p y ob
    · obtain ⟨ob0, hm0⟩ := hm
      obtain ⟨ob, hmm, _, hT, _⟩ := made_step hnc ht hm0.1 hm0.2.1 hm0.2.2.1
      rw [hT]
      refine ⟨i1, ?_, ?_⟩
      · intro k x ob' hm' h4 h5
        rw [St.get_set]
        by_cases ek : k = p
        · subst ek
          obtain rfl := Plan.same hm'.1 hy
          rw [if_pos rfl, hm'.one hmm]
        · rw [if_neg]
          · exact i2 k x ob' hm' h4 (by omega)
          · intro he
            exact ek (hp.place hm'.1 hy (by omega))
      · intro c hc
        rw [St.get_set, if_neg (fun e => hc p y ob hmm (by omega) (by omega) e.symm)]
        exact i3 c fun k x ob' hm' h4 h5 => hc k x ob' hm' h4 (by omega)
    · rw [same (fun ob h => hm ⟨ob, h⟩)]
      refine ⟨i1, ?_, fun c hc => i3 c fun k x ob' hm' h4 h5 => hc k x ob' hm' h4 (by omega)⟩
      intro k x ob' hm' h4 h5
      by_cases ek : k = p
      · subst ek
        obtain rfl := Plan.same hm'.1 hy
        exact absurd ⟨ob', hm'⟩ hm
      · exact i2 k x ob' hm' h4 (by omega)
end
end Go.Ev
