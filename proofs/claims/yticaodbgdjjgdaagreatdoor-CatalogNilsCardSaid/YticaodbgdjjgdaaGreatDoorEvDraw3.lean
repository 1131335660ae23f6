/-
  A region whose order is drawn: the step, and the whole.
-/
import Derived.Test.YticaodbgdjjgdaaGreatDoorEvDraw2
set_option linter.unusedVariables false
set_option linter.unusedSimpArgs false
namespace Go.Ev
open Go (Sem)

theorem again_eq {fr : Fr} {s : St} {d : Option Nat} {c : Cop} {g : Option (Option Nat × Bool)} : ∀ {l : List (Option Nat × Cop × Option (Option Nat × Bool))}, againOk fr s l = true → (d, c, g) ∈ l → (Option.rec true (fun g => wanted g fr) g : Bool) = true →
    ∃ t v s', d = some t ∧ (cop c).run fr s 0 = some (v, s') ∧ same v (orUndef (fr.get t)) = true := by
  intro l
  induction l with
  | nil => intro _ h; simp at h
  | cons x l ih =>
    intro h hm hw
    have h : cnd (Option.rec true (fun g => wanted g fr) x.2.2)
      (Option.rec false (fun r => Option.rec false (fun t => cnd (same r.1 (orUndef (fr.get t))) (againOk fr s l) false) x.1) ((cop x.2.1).run fr s 0)) (againOk fr s l) = true := h
    rw [cnd_eq] at h
    rcases List.mem_cons.1 hm with e | hm
    · subst e
      simp only at h
      rw [if_pos hw] at h
      cases e1 : (cop c).run fr s 0 with
      | none => rw [e1] at h; cases h
      | some r =>
        rw [e1] at h
        cases d with
        | none => cases h
        | some t =>
          have h : cnd (same r.1 (orUndef (fr.get t))) (againOk fr s l) false = true := h
          rw [cnd_eq] at h
          split at h
          · rename_i hs; exact ⟨t, r.1, r.2, rfl, rfl, hs⟩
          · cases h
    · split at h
      · cases e1 : (cop x.2.1).run fr s 0 with
        | none => rw [e1] at h; cases h
        | some r =>
          rw [e1] at h
          cases e2 : x.1 with
          | none => rw [e2] at h; cases h
          | some t =>
            rw [e2] at h
            have h : cnd (same r.1 (orUndef (fr.get t))) (againOk fr s l) false = true := h
            rw [cnd_eq] at h
            split at h
            · exact ih h hm hw
            · cases h
      · exact ih h hm hw

section
variable {P : Program} {nt : Nat} {ops : Array Oper} {L : List COper} {pos : Nat → Nat} {call : Caller} {round : Rounder} {b : Nat} {F : Nat → Fr} {T : Nat → St} {V : Nat → Value}
  {ι0 : Inj} {base : Nat} {fr0 : Fr} {w0 : World} {ds : List Deferred} {D : Nat → Prop} {a : Act} {w : World} {K : Nat} {U : Nat → Option Ob} {ι : Inj} {S : Nat → Prop}

theorem Plan.plain (hp : Plan P nt ops L pos) : ∀ (k : Nat) (x : COper), L[k]? = some x → x.op.cl ≠ .w → isCall x.op = false := by
  intro k x _ h
  cases e : x.op <;> first | rfl | (rw [e] at h; exact absurd rfl h)

/-- One more. -/
theorem Inv.step (hp : Plan P nt ops L pos) (ht : Trace call round b L F T V) (hF : F 0 = fr0) (hcall : GoodCall P call) (hround : NoRound round)
    (hnew : ∀ (k : Nat) (x : COper), L[k]? = some x → x.op.cl = .n → b + x.ix < (T 0).next) (hS : ∀ (k : Nat) (x : COper), L[k]? = some x → x.op.cl = .n → S (b + x.ix)) (hg : Globs P ι0) (I : Inv ops L nt S b fr0 F T V ι0 base w0 ds D a w K U ι) {i : Nat} {o : Oper} (ho : ops[i]? = some o) (hn : ¬ D i) (he : ∀ e ∈ o.after, Region.binds .any e = true → D e.on)
    {Q : Exit → Act → World → Prop} {next : Act → World → Prop}
    (hQ : ∀ (a' : Act) (w' : World) (K' : Nat) (U' : Nat → Option Ob) (κ : Inj), Inv ops L nt S b fr0 F T V ι0 base w0 ds (fun j => D j ∨ j = i) a' w' K' U' κ → next a' w') : wpOp P ops Q i next a w := by
  obtain ⟨p, x, x0, N⟩ := next_of hp I.closed ho hn he
  have hpL : p < L.length := (List.getElem?_eq_some_iff.1 N.hx).1
  have hg' : Globs P ι := hg.mono I.ext.le
  have hnc := hp.plain
  obtain ⟨_, _, _, _, _, hplain⟩ := rOper_eq N.r
  have hops : ∀ q, p ≤ q → q ≤ L.length → (q = p ∨ isMove o.op = false) → Ops ι o a (F q) := fun q h1 h2 h3 y hy => arg_ok' hg' (hplain y hy) fun t e => I.agree hp ht hF N h1 h2 h3 t (reads_op (e ▸ hy))
  have hwant : ∀ q, p ≤ q → q ≤ L.length → (q = p ∨ isMove o.op = false) → Region.wanted o (yielded ops a.tmps) = wants x (F q) := fun q h1 h2 h3 => by
    rw [wanted_ok' (fr := F q) N.r fun j want t g1 g2 => I.agree hp ht hF N h1 h2 h3 t (reads_guard g1 g2)]
    unfold wants
    rw [N.guard]
  unfold wpOp
  rw [N.ho]
  simp only
  rw [hwant p (Nat.le_refl _) (by omega) (.inl rfl)]
  cases hwp : wants x (F p) with
  | false =>
    rw [if_neg (by simp)]
    refine hQ _ _ _ _ _ (I.still hp N ?_ (fun h => by rw [h.2.2] at hwp; cases hwp) fun ob h => by rw [h.2.2.1] at hwp; cases hwp)
    rw [(ht.no p x N.hx hwp).1]
    exact .undef
  | true =>
  rw [if_pos rfl]
  left
  have hrun := ht.yes p x N.hx hwp
  -- what writes, and lies at a place from K on, is not done yet
  have late : ∀ (k : Nat) (y : COper), Wr L F k y → K ≤ k → ¬ D y.ix := fun k y hy hk hd => by
    have := (I.wOld k y hy).1 hd; omega
  -- what is looked at, at a state that is a part
  have look : isQ x.op = true → ∀ (s : St) (q : Nat) (id : Nat), Rel ι base s w → p ≤ q → q ≤ L.length → (q = p ∨ isMove o.op = false) → (cop x.op).run (F q) s id = some (V p, s) → o.wp P a w next Q := by
    intro hq s q id r h1 h2 h3 h
    obtain ⟨_, hok⟩ := (op_ok N.rop (hops q h1 h2 h3) r h).q hq
    obtain ⟨v', hv, hl⟩ := hok.looks
    refine hl _ _ (hQ _ _ _ _ _ (I.still hp N hv (fun h => ?_) fun ob h => ?_))
    · unfold isQ at hq; rw [h.2.1] at hq; cases hq
    · unfold isQ at hq; rw [h.2.1] at hq; cases hq
  cases hc : x.op.cl with
  | p =>
    rw [oneOp_eq (hnc p x N.hx (by rw [hc]; simp))] at hrun
    obtain ⟨f, hf⟩ := cls_p hc (F p)
    have h1 := hrun.1
    rw [hf] at h1
    obtain ⟨v, hfv, h7⟩ := om_eq.1 h1
    subst hfv
    have h1 : v = V p := congrArg Prod.fst h7
    refine look (by unfold isQ; rw [hc]) (T K) p 0 (I.rel.sub I.part rfl) (Nat.le_refl _) (by omega) (.inl rfl) ?_
    rw [hf, ← h1]; rfl
  | l =>
    rw [oneOp_eq (hnc p x N.hx (by rw [hc]; simp))] at hrun
    have hmv : isMove o.op = false := by
      cases e : o.op <;> first | rfl | skip
      exfalso
      have hro := N.rop
      rw [e] at hro
      have hro2 := Option.some.inj hro
      rw [← hro2] at hc
      cases hc
    rcases Nat.lt_or_ge p K with hpK | hpK
    · -- read again behind the last one that wrote
      rcases I.last with h | ⟨y, hy, hdy⟩
      · omega
      have hne : x.ix ≠ y.ix := by intro e; rw [N.ix] at e; rw [← e] at hdy; exact N.hn hdy
      have hpq : p < K - 1 := by
        rcases Nat.lt_or_ge p (K - 1) with h | h
        · exact h
        · have e : p = K - 1 := by omega
          rw [← e] at hy
          exact absurd (by rw [Plan.same hy.1 N.hx]) hne
      have hyL : K - 1 < L.length := (List.getElem?_eq_some_iff.1 hy.1).1
      have hag := hp.again _ _ _ _ hy.1 N.hx (Ne.symm hne) hy.2.1 hc (fun hb => N.hn (by rw [← N.ix]; exact closed_bits I.closed _ _ hdy hb)) (hp.lin _ _ _ _ N.hx hy.1 hpq)
      obtain ⟨_, h2⟩ := ht.yes _ _ hy.1 hy.2.2
      rw [show K - 1 + 1 = K by omega] at h2
      obtain ⟨t, v, s', e1, e2, e3⟩ := again_eq h2 hag (by have := hwant (K - 1) (by omega) (by omega) (.inr hmv); rw [hwant p (Nat.le_refl _) (by omega) (.inl rfl), hwp] at this; unfold wants at this; exact this.symm)
      have e4 := same_eq e3
      rw [frame_new hp ht N.hx e1 _ hpq (by omega)] at e4
      have e4 : v = V p := e4
      obtain ⟨f, hf⟩ := cls_l hc (F (K - 1)) (T K)
      rw [hf] at e2
      obtain ⟨v2, hfv, h7⟩ := om_eq.1 e2
      subst hfv
      have e2 : v2 = v := congrArg Prod.fst h7
      refine look (by unfold isQ; rw [hc]) (T K) (K - 1) 0 (I.rel.sub I.part rfl) (by omega) (by omega) (.inr hmv) ?_
      rw [hf, ← e4, ← e2]; rfl
    · obtain ⟨g1, g2, _⟩ := I.part_at hp hnc ht hpK (by omega) (by
        intro k y hy hk
        rcases Nat.lt_or_ge k p with h | h
        · exfalso
          have hne : x.ix ≠ y.ix := fun e => by have := hp.place N.hx hy.1 e; omega
          rcases hp.lw _ _ _ _ N.hx hy.1 hne hc hy.2.1 with h1 | h1 | h1
          · omega
          · exact late k y hy hk (N.bits _ (by rw [← N.ix]; exact h1))
          · exact hp.lin _ _ _ _ hy.1 N.hx h h1
        · exact h) (by
        intro k y ob hm hk hkp
        have hne : x.ix ≠ y.ix := fun e => by have := hp.place N.hx hm.1 e; omega
        rcases hp.ln _ _ _ _ N.hx hm.1 hne hc hm.2.1 with h1 | h1 | h1
        · omega
        · exact N.bits _ (by rw [← N.ix]; exact h1)
        · exact absurd h1 (hp.lin _ _ _ _ hm.1 N.hx hkp))
      obtain ⟨f, hf⟩ := cls_l hc (F p) (T p)
      have h1 := hrun.1
      rw [hf] at h1
      obtain ⟨v, hfv, h7⟩ := om_eq.1 h1
      subst hfv
      have h1 : v = V p := congrArg Prod.fst h7
      refine look (by unfold isQ; rw [hc]) (T p) p 0 (I.rel.sub g2 g1.symm) (Nat.le_refl _) (by omega) (.inl rfl) ?_
      rw [hf, ← h1]; rfl
  | n =>
    obtain ⟨ob, hm, hlive, hT, hrun2⟩ := made_step hnc ht N.hx hc hwp
    have hKp : K ≤ p := by
      rcases Nat.lt_or_ge p K with hpK | h
      · exfalso
        rcases I.last with h | ⟨y, hy, hdy⟩
        · omega
        have hne : x.ix ≠ y.ix := by intro e; rw [N.ix] at e; rw [← e] at hdy; exact N.hn hdy
        have hpq : p < K - 1 := by
          rcases Nat.lt_or_ge p (K - 1) with h | h
          · exact h
          · have e : p = K - 1 := by omega
            rw [← e] at hy
            exact absurd (by rw [Plan.same hy.1 N.hx]) hne
        rcases hp.nw _ _ _ _ N.hx hy.1 hne hc hy.2.1 with h1 | h1 | h1
        · omega
        · exact hp.lin _ _ _ _ N.hx hy.1 hpq h1
        · exact N.hn (by rw [← N.ix]; exact closed_bits I.closed _ _ hdy h1)
      · exact h
    have hfr := I.fresh p x N.hx hc (by rw [N.ix]; exact N.hn)
    have hnone : (T K).get (b + x.ix) = none := by
      cases e : (T K).get (b + x.ix) with
      | none => rfl
      | some o' => have := I.part _ _ e; rw [hfr.1] at this; cases this
    have hlt : b + x.ix < (T K).next := Nat.lt_of_lt_of_le (hnew p x N.hx hc) I.ext.next
    have r : Rel ι base (T K) w := I.rel.sub I.part rfl
    have hdoes := ((op_ok N.rop (hops p (Nat.le_refl _) (by omega) (.inl rfl)) r (hrun2 (T K))).n hc hlt hnone hfr.2).op
    refine hdoes _ _ fun κ v' w' e1 e2 => ?_
    have lift := Ext.lift (U' := fun c => if c = b + x.ix then some ob else U c) I.rel I.part rfl e1 (fun c hc => by rw [hc]; exact hfr.1)
      (fun c oc h => by
        rw [St.get_set] at h
        by_cases e : b + x.ix = c
        · rw [if_pos e] at h; rw [if_pos e.symm]; exact h
        · rw [if_neg e] at h; rw [if_neg (fun h => e h.symm)]; exact I.part c oc h)
      (fun c h _ => by
        rw [St.get_set] at h
        by_cases e : b + x.ix = c
        · rw [if_pos e] at h; cases h
        · rw [if_neg (fun h => e h.symm)])
      (fun c h h' => by
        rw [St.get_set] at h
        by_cases e : b + x.ix = c
        · rw [if_pos e] at h; cases h
        · rw [if_neg e] at h; exact absurd h h')
    rw [St.next_set] at lift
    refine hQ _ _ K _ κ (I.more hp N lift.le e2 ?_ ?_ I.le lift.rel ?_ ?_ I.free ?_ (lift.mono fun c hcc => by rw [hcc]; exact hS p x N.hx hc))
    · intro k y hy
      rw [← I.wOld k y hy]
      constructor
      · rintro (h | h)
        · exact h
        · obtain ⟨rfl, rfl⟩ := N.is hp hy.1 h
          have := hy.2.1; rw [hc] at this; cases this
      · exact .inl
    · rcases I.last with h | ⟨y, h3, h4⟩
      · exact .inl h
      · exact .inr ⟨y, h3, .inl h4⟩
    · rintro k y ob' hm' (h | h) hk
      · have hne : b + y.ix ≠ b + x.ix := by
          intro e
          have : y.ix = i := by rw [← N.ix]; omega
          rw [this] at h; exact N.hn h
        show (if b + y.ix = b + x.ix then some ob else U (b + y.ix)) = _
        rw [if_neg hne]
        exact I.made k y ob' hm' h hk
      · obtain ⟨rfl, rfl⟩ := N.is hp hm'.1 h
        show (if b + y.ix = b + y.ix then some ob else U (b + y.ix)) = _
        rw [if_pos rfl, hm'.one hm]
    · intro c hcc
      show (if c = b + x.ix then some ob else U c) = _
      rw [if_neg (hcc p x ob hm (.inr N.ix) hKp)]
      exact I.rest c fun k y ob' hm' hd hk => hcc k y ob' hm' (.inl hd) hk
    · intro k y hy hcn hd
      have h1 := I.fresh k y hy hcn fun h => hd (.inl h)
      have hne : b + y.ix ≠ b + x.ix := by
        intro e
        exact hd (.inr (by rw [← N.ix]; omega))
      obtain ⟨g1, g2⟩ := lift.gone (b + y.ix) (Nat.lt_of_lt_of_le (hnew k y hy hcn) I.ext.next) hne h1.1
      exact ⟨g1, g2 h1.2⟩
  | w =>
    have hwr : Wr L F p x := ⟨N.hx, hc, hwp⟩
    have hKp : K ≤ p := by
      rcases Nat.lt_or_ge p K with h | h
      · exact absurd ((I.wOld p x hwr).2 h) (by rw [N.ix]; exact N.hn)
      · exact h
    have hdone : ∀ (k : Nat) (y : COper) (ob : Ob), Made L b F k y ob → k < p → D y.ix := by
      intro k y ob hm hkp
      have hne : y.ix ≠ x.ix := fun e => by have := hp.place hm.1 N.hx e; omega
      rcases hp.nw _ _ _ _ hm.1 N.hx hne hm.2.1 hc with h1 | h1 | h1
      · omega
      · exact absurd h1 (hp.lin _ _ _ _ hm.1 N.hx hkp)
      · exact N.bits _ (by rw [← N.ix]; exact h1)
    have hfirst : ∀ (k : Nat) (y : COper), Wr L F k y → K ≤ k → p ≤ k := by
      intro k y hy hk
      rcases Nat.lt_or_ge k p with h | h
      · exfalso
        have hne : y.ix ≠ x.ix := fun e => by have := hp.place hy.1 N.hx e; omega
        rcases hp.ww _ _ _ _ hy.1 N.hx hne hy.2.1 hc with h1 | h1
        · exact hp.lin _ _ _ _ hy.1 N.hx h h1
        · exact late k y hy hk (N.bits _ (by rw [← N.ix]; exact h1))
      · exact h
    obtain ⟨g1, g2, g3⟩ := I.part_at hp hnc ht hKp (by omega) hfirst fun k y ob hm _ hkp => hdone k y ob hm hkp
    have r : Rel ι base (T p) w := I.rel.sub g2 g1.symm
    have hrun1 := hrun.1
    rw [N.op] at hrun1
    have hdoes := oper_ok' hcall hround N.r (hops p (Nat.le_refl _) (by omega) (.inl rfl)) hg' r (fun h => by rw [← N.op, hc] at h; cases h) hrun1
    refine hdoes _ _ fun κ v' w' e1 e2 => ?_
    have e1 : Ext none_ ι base (T p) w κ (T (p + 1)) w' := e1.mono fun c h => by rw [← N.op, hc] at h; cases h.2
    have lift := Ext.lift (U' := fun c => match (T (p + 1)).get c with | some oc => some oc | none => (match (T p).get c with | none => U c | some _ => none)) (show RelF ι base U (T p).next w by rw [g1]; exact I.rel) g2 rfl e1 (fun _ h => h.elim)
      (fun c oc h => by simp only [h])
      (fun c h h' => by simp only [h, h'])
      (fun c h h' => by
        simp only [h]
        cases e : (T p).get c with
        | none => exact absurd e h'
        | some _ => rfl)
    rw [g1] at lift
    -- what is to come stays free
    have hfree : ∀ (k : Nat) (y : COper), L[k]? = some y → y.op.cl = .n → p ≤ k → (T p).get (b + y.ix) = none := by
      intro k y hy hcn hk
      obtain ⟨_, _, s3⟩ := stretch hp hnc ht p hKp (by omega) hfirst
      rw [s3 _ fun k' y' ob' hm' h1 h2 h3 => by have := hp.place hm'.1 hy (by omega); omega]
      exact I.free k y hy hcn (by omega)
    have hlt : ∀ (k : Nat) (y : COper), L[k]? = some y → y.op.cl = .n → b + y.ix < (T p).next := fun k y hy hcn => by rw [g1]; exact Nat.lt_of_lt_of_le (hnew k y hy hcn) I.ext.next
    refine hQ _ _ (p + 1) _ κ (I.more hp N lift.le e2 ?_ ?_ (by omega) lift.rel ?_ ?_ ?_ ?_ (lift.mono fun _ h => h.elim))
    · intro k y hy
      constructor
      · rintro (h | h)
        · have := (I.wOld k y hy).1 h; omega
        · obtain ⟨rfl, rfl⟩ := N.is hp hy.1 h
          omega
      · intro h
        rcases Nat.lt_or_ge k K with h1 | h1
        · exact .inl ((I.wOld k y hy).2 h1)
        · have := hfirst k y hy h1
          obtain rfl : k = p := by omega
          exact .inr (by rw [Plan.same hy.1 N.hx]; exact N.ix)
    · exact .inr ⟨x, by rw [Nat.add_sub_cancel]; exact hwr, .inr N.ix⟩
    · rintro k y ob hm (h | h) hk
      · have h0 := hfree k y hm.1 hm.2.1 (by omega)
        have h1 := (e1.gone _ (hlt k y hm.1 hm.2.1) (fun h => h) h0).1
        simp only [h1, h0]
        exact I.made k y ob hm h (by omega)
      · obtain ⟨rfl, rfl⟩ := N.is hp hm.1 h
        omega
    · intro c hcc
      cases h1 : (T (p + 1)).get c with
      | some oc => simp only
      | none =>
        simp only
        cases h2 : (T p).get c with
        | some _ => simp only
        | none =>
          simp only
          refine g3 c h2 fun k y ob hm hd hk => ?_
          rcases Nat.lt_or_ge p k with h | h
          · exact hcc k y ob hm (.inl hd) h
          · obtain rfl : k = p := by omega
            have := hm.2.1
            rw [Plan.same hm.1 N.hx, hc] at this; cases this
    · intro k y hy hcn hk
      exact (e1.gone _ (hlt k y hy hcn) (fun h => h) (hfree k y hy hcn (by omega))).1
    · intro k y hy hcn hd
      have h1 := I.fresh k y hy hcn fun h => hd (.inl h)
      obtain ⟨g4, g5⟩ := lift.gone (b + y.ix) (Nat.lt_of_lt_of_le (hnew k y hy hcn) I.ext.next) (fun h => h) h1.1
      exact ⟨g4, g5 h1.2⟩
end
end Go.Ev
