/-
  A region whose order is drawn: one more is done.
-/
import Derived.Test.YticaodbgdjjgdaaGreatDoorEvDraw
set_option linter.unusedVariables false
set_option linter.unusedSimpArgs false
namespace Go.Ev
open Go (Sem)

theorem arg_ok' {P : Program} {ι : Inj} {fr : Fr} {a : Act} (hg : Globs P ι) {x : Operand} (hx : plainX P x = true) (hf : ∀ t, x = .tmp t → VR ι (orUndef (fr.get t)) (a.tmps.getD t Go.undef)) : VR ι ((rArg x).ev fr) (a.eval x) := by
  cases x with
  | tmp t => exact hf t rfl
  | const v => exact .plainV hx
  | global g =>
    obtain ⟨B, h1, h2, h3⟩ := hg g (by simpa [plainX] using hx)
    exact .ptr ⟨B, h1, rfl, by simp [h2, h3]⟩
  | func f => exact .func (f := .func f) (f' := .func f) (a := []) (a' := []) (c := []) (c' := []) rfl rfl (by simp) rfl (by simp)

section
variable {P : Program} {nt : Nat} {ops : Array Oper} {L : List COper} {pos : Nat → Nat} {call : Caller} {round : Rounder} {b : Nat} {F : Nat → Fr} {T : Nat → St} {V : Nat → Value}
  {ι0 : Inj} {base : Nat} {fr0 : Fr} {w0 : World} {ds : List Deferred} {D : Nat → Prop} {a : Act} {w : World} {K : Nat} {U : Nat → Option Ob} {ι : Inj} {S : Nat → Prop}

/-- What is known of an operation that is next. -/
structure Nx (P : Program) (nt : Nat) (ops : Array Oper) (L : List COper) (D : Nat → Prop) (i p : Nat) (o : Oper) (x x0 : COper) : Prop where
  ho : ops[i]? = some o
  hx : L[p]? = some x
  ix : x.ix = i
  r : rOper P nt ops o i = some x0
  dst : x.dst = o.dst
  op : x.op = x0.op
  guard : x.guard = x0.guard
  rop : rOp P o.op = some x.op
  hn : ¬ D i
  edges : ∀ e ∈ o.after, Region.binds .any e = true → D e.on
  bits : ∀ j, Bit ops i j → D j
  lt : ∀ (k : Nat) (y : COper), L[k]? = some y → Bit ops i y.ix → k < p
  nxt : ∀ d, o.dst = some d → d < nt

theorem next_of (hp : Plan P nt ops L pos) (hcl : ∀ (i : Nat) (o : Oper), D i → ops[i]? = some o → ∀ e ∈ o.after, Region.binds .any e = true → D e.on) {i : Nat} {o : Oper} (ho : ops[i]? = some o) (hn : ¬ D i) (he : ∀ e ∈ o.after, Region.binds .any e = true → D e.on) :
    ∃ p x x0, Nx P nt ops L D i p o x x0 := by
  have hi : i < ops.size := (Array.getElem?_eq_some_iff.1 ho).1
  obtain ⟨x, hx, hix⟩ := hp.at_ i hi
  obtain ⟨o', x0, h1, h2, h3, h4, h5, h6⟩ := hp.op _ x hx
  rw [hix] at h1 h2
  rw [ho] at h1; cases h1
  obtain ⟨c, e1, e2, e3, e4, e5⟩ := rOper_eq h2
  have bits : ∀ j, Bit ops i j → D j := by
    intro j hj
    obtain ⟨o2, g1, e, g2, g3, g4⟩ := before_bit hj
    rw [ho] at g1; cases g1
    have hd := he e g2 g3
    rcases g4 with rfl | ⟨_, g5⟩
    · exact hd
    · exact closed_bits hcl e.on j hd g5
  refine ⟨pos i, x, x0, ho, hx, hix, h2, by rw [h3, e2], h4, h5, by rw [h4, e2]; exact e1, hn, he, bits, ?_, e4⟩
  intro k y hy hbit
  rcases Nat.lt_trichotomy k (pos i) with h | h | h
  · exact h
  · subst h
    obtain rfl := Plan.same hy hx
    rw [hix] at hbit
    exact absurd (bits _ hbit) hn
  · exact absurd hbit (by rw [← hix]; exact hp.lin _ _ _ _ hx hy h)

/-- The temporaries that it looks at. -/
theorem Inv.agree (hp : Plan P nt ops L pos) (ht : Trace call round b L F T V) (hF : F 0 = fr0) (I : Inv ops L nt S b fr0 F T V ι0 base w0 ds D a w K U ι) {i p : Nat} {o : Oper} {x x0 : COper} (N : Nx P nt ops L D i p o x x0) {q : Nat} (hq : p ≤ q) (hqL : q ≤ L.length) (hpq : q = p ∨ isMove o.op = false) :
    ∀ t, t ∈ readsOf ops o → VR ι (orUndef ((F q).get t)) (a.tmps.getD t Go.undef) := by
  intro t ht'
  by_cases h : ∃ (k : Nat) (y : COper), L[k]? = some y ∧ y.dst = some t
  · obtain ⟨k, y, hy, hd⟩ := h
    obtain ⟨o', y0, g1, g2, g3, _⟩ := hp.op k y hy
    obtain ⟨_, _, e2, _⟩ := rOper_eq g2
    have hod : o'.dst = some t := by rw [← hd, g3, e2]
    rcases hp.before i o t N.ho ht' y.ix o' g1 hod with hbit | ⟨hmv, hbit⟩
    · have hk := N.lt k y hy hbit
      rw [frame_new hp ht hy hd q (by omega) hqL]
      exact I.tmpsNew k y t hy (N.bits _ hbit) hd
    · -- read in front of the write
      have hqp : q = p := hpq.resolve_right (by rw [hmv]; simp)
      subst hqp
      have hpk : q < k := by
        rcases Nat.lt_trichotomy q k with h | h | h
        · exact h
        · subst h
          obtain rfl := Plan.same hy N.hx
          rw [N.ix] at hbit
          exact absurd (N.bits _ hbit) N.hn
        · rw [← N.ix] at hbit
          exact absurd hbit (hp.lin _ _ _ _ hy N.hx h)
      have huniq : ∀ (k' : Nat) (y' : COper), L[k']? = some y' → y'.dst = some t → k' = k := by
        intro k' y' hy' hd'
        obtain ⟨o2, y2, f1, f2, f3, _⟩ := hp.op k' y' hy'
        obtain ⟨_, _, e3, _⟩ := rOper_eq f2
        exact hp.place hy' hy (hp.one _ _ o2 o' t f1 g1 (by rw [← hd', f3, e3]) hod)
      have hnd : ¬ D y.ix := fun hdy => N.hn (closed_bits I.closed _ _ hdy hbit)
      rw [frame_old ht q hqL fun k' y' hy' hk' hd' => by have := huniq k' y' hy' hd'; omega, hF]
      refine I.tmpsOld t fun k' y' hy' hd1 hd' => ?_
      have := huniq k' y' hy' hd'
      subst this
      obtain rfl := Plan.same hy' hy
      exact hnd hd1
  · have hno : ∀ (k : Nat) (y : COper), L[k]? = some y → y.dst ≠ some t := fun k y hy hd => h ⟨k, y, hy, hd⟩
    rw [frame_old ht q hqL fun k y hy _ => hno k y hy, hF]
    exact I.tmpsOld t fun k y hy _ => hno k y hy

theorem reads_op {o : Oper} {t : Nat} (h : Operand.tmp t ∈ o.op.operands.toList) : t ∈ readsOf ops o := by
  unfold readsOf
  exact List.mem_append_left _ (List.mem_filterMap.2 ⟨_, h, rfl⟩)
theorem reads_guard {o : Oper} {j t : Nat} {want : Bool} (h : o.guard = some (j, want)) (h2 : (ops[j]?).bind (·.dst) = some t) : t ∈ readsOf ops o := by
  unfold readsOf
  refine List.mem_append_right _ ?_
  rw [h]
  simp only
  rw [h2]; simp

theorem put_getD (hp : Plan P nt ops L pos) {i p : Nat} {o : Oper} {x x0 : COper} (N : Nx P nt ops L D i p o x x0) (hs : nt ≤ a.tmps.size) {v : Value} {t : Nat} :
    (a.put o.dst v).tmps.getD t Go.undef = if o.dst = some t then v else a.tmps.getD t Go.undef := by
  cases hd : o.dst with
  | none => simp; rfl
  | some d =>
    have hlt := N.nxt d hd
    show (Array.setIfInBounds a.tmps d v).getD t Go.undef = _
    rw [Array.getD_eq_getD_getElem?, Array.getElem?_setIfInBounds]
    by_cases h : d = t
    · subst h
      rw [if_pos rfl, if_pos (Nat.lt_of_lt_of_le hlt hs), if_pos rfl]; rfl
    · rw [if_neg h, if_neg (by simpa using h), Array.getD_eq_getD_getElem?]

/-- One more is done. -/
theorem Inv.more (hp : Plan P nt ops L pos) (I : Inv ops L nt S b fr0 F T V ι0 base w0 ds D a w K U ι) {i p : Nat} {o : Oper} {x x0 : COper} (N : Nx P nt ops L D i p o x x0) {κ : Inj} (hle : ι.le κ) {v : Value} (hv : VR κ (V p) v) {K' : Nat} {U' : Nat → Option Ob} {w' : World}
    (wOld : ∀ (k : Nat) (x : COper), Wr L F k x → (D x.ix ∨ x.ix = i ↔ k < K'))
    (last : K' = 0 ∨ ∃ x, Wr L F (K' - 1) x ∧ (D x.ix ∨ x.ix = i))
    (le : K' ≤ L.length)
    (rel : RelF κ base U' (T K').next w')
    (made : ∀ (k : Nat) (x : COper) (ob : Ob), Made L b F k x ob → D x.ix ∨ x.ix = i → K' ≤ k → U' (b + x.ix) = some ob)
    (rest : ∀ c : Nat, (∀ (k : Nat) (x : COper) (ob : Ob), Made L b F k x ob → D x.ix ∨ x.ix = i → K' ≤ k → c ≠ b + x.ix) → U' c = (T K').get c)
    (free : ∀ (k : Nat) (x : COper), L[k]? = some x → x.op.cl = .n → K' ≤ k → (T K').get (b + x.ix) = none)
    (fresh : ∀ (k : Nat) (x : COper), L[k]? = some x → x.op.cl = .n → ¬ (D x.ix ∨ x.ix = i) → U' (b + x.ix) = none ∧ κ (b + x.ix) = none)
    (ext : ExtF S ι base U (T K).next w κ U' (T K').next w') : Inv ops L nt S b fr0 F T V ι0 base w0 ds (fun j => D j ∨ j = i) (a.put o.dst v) w' K' U' κ := by
  refine ⟨?_, wOld, last, le, rel, made, rest, free, fresh, ?_, ?_, ?_, by rw [Act.put_defers']; exact I.defers, I.ext.trans ext⟩
  · rintro j oj (hj | rfl) ho e he hb
    · exact .inl (I.closed j oj hj ho e he hb)
    · rw [N.ho] at ho; cases ho
      exact .inl (N.edges e he hb)
  · intro k y t hy hd hdst
    rw [put_getD hp N I.tsize]
    split
    · rename_i hdt
      have hk : y.ix = i := by
        obtain ⟨o', y0, g1, g2, g3, _⟩ := hp.op k y hy
        obtain ⟨_, _, e2, _⟩ := rOper_eq g2
        exact hp.one _ _ o' o t g1 N.ho (by rw [← hdst, g3, e2]) hdt
      have := hp.place hy N.hx (by rw [N.ix]; exact hk)
      subst this
      exact hv
    · rename_i hdt
      rcases hd with hd | hd
      · exact (I.tmpsNew k y t hy hd hdst).mono hle
      · have := hp.place hy N.hx (by rw [N.ix]; exact hd)
        subst this
        obtain rfl := Plan.same hy N.hx
        exact absurd (by rw [← N.dst]; exact hdst) hdt
  · intro t hno
    rw [put_getD hp N I.tsize, if_neg]
    · exact (I.tmpsOld t fun k y hy hd => hno k y hy (.inl hd)).mono hle
    · intro hdt
      exact hno p x N.hx (.inr N.ix) (by rw [N.dst]; exact hdt)
  · cases o.dst with
    | none => exact I.tsize
    | some d => show nt ≤ (Array.setIfInBounds a.tmps d v).size; rw [Array.size_setIfInBounds]; exact I.tsize

theorem Nx.is (hp : Plan P nt ops L pos) {i p : Nat} {o : Oper} {x x0 : COper} (N : Nx P nt ops L D i p o x x0) {k : Nat} {y : COper} (hy : L[k]? = some y) (h : y.ix = i) : k = p ∧ y = x := by
  have := hp.place hy N.hx (by rw [N.ix]; exact h)
  subst this
  exact ⟨rfl, Plan.same hy N.hx⟩

theorem ExtF.refl {S : Nat → Prop} {g : Nat → Option Ob} {nx : Nat} (h : RelF ι base g nx w) : ExtF S ι base g nx w ι g nx w :=
  ⟨Inj.le_refl _, h, Nat.le_refl _, fun _ _ _ h1 => ⟨h1, id⟩, fun _ _ _ => rfl, fun a o B h1 h2 h3 _ => ⟨a, o, B, h1, h2, fun h => h, h3, rfl⟩, Nat.le_refl _, rfl, rfl, rfl⟩
theorem ExtF.mono {S S' : Nat → Prop} {κ : Inj} {g g' : Nat → Option Ob} {nx nx' : Nat} {w' : World} (h : ExtF S ι base g nx w κ g' nx' w') (hS : ∀ a, S a → S' a) : ExtF S' ι base g nx w κ g' nx' w' :=
  ⟨h.le, h.rel, h.next, fun a ha hn => h.gone a ha (fun hs => hn (hS a hs)), h.keep, h.img, h.size, h.os, h.tape, h.output⟩

/-- What does not touch the state. -/
theorem Inv.still (hp : Plan P nt ops L pos) (I : Inv ops L nt S b fr0 F T V ι0 base w0 ds D a w K U ι) {i p : Nat} {o : Oper} {x x0 : COper} (N : Nx P nt ops L D i p o x x0) {v : Value} (hv : VR ι (V p) v)
    (h1 : ¬ Wr L F p x) (h2 : ∀ ob, ¬ Made L b F p x ob) : Inv ops L nt S b fr0 F T V ι0 base w0 ds (fun j => D j ∨ j = i) (a.put o.dst v) w K U ι := by
  refine I.more hp N (Inj.le_refl _) hv ?_ ?_ I.le I.rel ?_ ?_ I.free ?_ (ExtF.refl I.rel)
  · intro k y hy
    rw [← I.wOld k y hy]
    constructor
    · rintro (h | h)
      · exact h
      · obtain ⟨rfl, rfl⟩ := N.is hp hy.1 h
        exact absurd hy h1
    · exact .inl
  · rcases I.last with h | ⟨y, h3, h4⟩
    · exact .inl h
    · exact .inr ⟨y, h3, .inl h4⟩
  · rintro k y ob hm (h | h) hk
    · exact I.made k y ob hm h hk
    · obtain ⟨rfl, rfl⟩ := N.is hp hm.1 h
      exact absurd hm (h2 ob)
  · intro c hc
    exact I.rest c fun k y ob hm hd hk => hc k y ob hm (.inl hd) hk
  · intro k y hy hn hd
    exact I.fresh k y hy hn fun h => hd (.inl h)

/-- The last writer's state is a part. -/
theorem Inv.part (I : Inv ops L nt S b fr0 F T V ι0 base w0 ds D a w K U ι) : ∀ c o, (T K).get c = some o → U c = some o := by
  intro c o h
  rw [I.rest c ?_]
  · exact h
  · rintro k y ob hm hd hk rfl
    rw [I.free k y hm.1 hm.2.1 hk] at h; cases h

/-- The state in front of one. -/
theorem Inv.part_at (hp : Plan P nt ops L pos) (hnc : ∀ (k : Nat) (x : COper), L[k]? = some x → x.op.cl ≠ .w → isCall x.op = false) (ht : Trace call round b L F T V) (I : Inv ops L nt S b fr0 F T V ι0 base w0 ds D a w K U ι) {p : Nat} (hK : K ≤ p) (hpL : p ≤ L.length)
    (hw : ∀ (k : Nat) (x : COper), Wr L F k x → K ≤ k → p ≤ k) (hn : ∀ (k : Nat) (x : COper) (ob : Ob), Made L b F k x ob → K ≤ k → k < p → D x.ix) :
    (T p).next = (T K).next ∧ (∀ c o, (T p).get c = some o → U c = some o) ∧ (∀ c, (T p).get c = none → (∀ (k : Nat) (x : COper) (ob : Ob), Made L b F k x ob → D x.ix → p ≤ k → c ≠ b + x.ix) → U c = none) := by
  obtain ⟨s1, s2, s3⟩ := stretch hp hnc ht p hK hpL hw
  refine ⟨s1, ?_, ?_⟩
  · intro c o h
    by_cases hc : ∃ (k : Nat) (x : COper) (ob : Ob), Made L b F k x ob ∧ K ≤ k ∧ k < p ∧ c = b + x.ix
    · obtain ⟨k, x, ob, h1, h2, h3, rfl⟩ := hc
      rw [s2 k x ob h1 h2 h3] at h
      rw [← h]
      exact I.made k x ob h1 (hn k x ob h1 h2 h3) h2
    · rw [s3 c fun k x ob h1 h2 h3 h4 => hc ⟨k, x, ob, h1, h2, h3, h4⟩] at h
      exact I.part c o h
  · intro c h hc
    by_cases hm : ∃ (k : Nat) (x : COper) (ob : Ob), Made L b F k x ob ∧ K ≤ k ∧ k < p ∧ c = b + x.ix
    · obtain ⟨k, x, ob, h1, h2, h3, rfl⟩ := hm
      rw [s2 k x ob h1 h2 h3] at h; cases h
    · rw [s3 c fun k x ob h1 h2 h3 h4 => hm ⟨k, x, ob, h1, h2, h3, h4⟩] at h
      rw [I.rest c ?_]
      · exact h
      · intro k x ob h1 h2 h3 h4
        rcases Nat.lt_or_ge k p with h5 | h5
        · exact hm ⟨k, x, ob, h1, h3, h5, h4⟩
        · exact hc k x ob h1 h2 h5 h4
end
end Go.Ev
