/-
  A region in the order of the text.
-/
import Derived.Test.YticaodbgdjjgdaaGreatDoorEvCall
set_option linter.unusedVariables false
set_option linter.unusedSimpArgs false
namespace Go.Ev
open Go (Sem)

section
variable {P : Program} {ι : Inj} {w : World} {base : Nat} {s : St} {o : Oper} {a : Act} {fr : Fr} {id nt : Nat} {v : Value} {s' : St} {co : COper} {ops : Array Oper}

theorem oneOp_eq {c : Cop} (h : isCall c = false) (call : Caller) (round : Rounder) (fr : Fr) (s : St) (id : Nat) : (oneOp c).run call round fr s id = (cop c).run fr s id := by
  cases c <;> first | rfl | cases h

theorem rOper_eq {i : Nat} (h : rOper P nt ops o i = some co) : ∃ c, rOp P o.op = some c ∧ co = { dst := o.dst, op := c, guard := o.guard.map fun (j, want) => ((ops[j]?).bind (·.dst), want), ix := i, again := [] } ∧ isCall c = isValueCall o.op ∧ (∀ x, o.dst = some x → x < nt) ∧ (∀ x ∈ o.op.operands.toList, plainX P x = true) := by
  unfold rOper at h
  split at h
  · cases h
  · rename_i c hc
    split at h
    · rename_i hcond
      cases h
      simp only [Bool.and_eq_true, beq_iff_eq] at hcond
      obtain ⟨⟨h1, h2⟩, h3⟩ := hcond
      refine ⟨c, hc, rfl, h1, ?_, fun x hx => List.all_eq_true.1 h3 x hx⟩
      intro x hx
      rw [hx] at h2
      simpa using h2
    · cases h

theorem ops_of (hf : FR ι fr nt a.tmps) (hg : Globs P ι) (h : ∀ x ∈ o.op.operands.toList, plainX P x = true) : Ops ι o a fr := fun x hx => arg_ok hf hg (h x hx)

def NoRound (round : Rounder) : Prop := ∀ (l : Nat) (args : List Value) (s : St) (v : Value) (s' : St) (ι : Inj) (base : Nat) (w : World), Rel ι base s w → round l args s = some (v, s') → False

/-- One operation that is wanted. -/
theorem oper_ok' {call : Caller} (hcall : GoodCall P call) {round : Rounder} (hround : NoRound round) {i : Nat} (hro : rOper P nt ops o i = some co) (hv : Ops ι o a fr) (hg : Globs P ι) (r : Rel ι base s w)
    (hid : co.op.cl = .n → id < s.next ∧ s.get id = none ∧ ι id = none) (h : (oneOp co.op).run call round fr s id = some (v, s')) : DoesOp P (fun x => x = id ∧ co.op.cl = .n) ι base s w o a v s' := by
  obtain ⟨c, h1, rfl, h2, h3, h4⟩ := rOper_eq hro
  cases hc : isValueCall o.op with
  | true => exact call_ok hcall h1 hc hv hg r (fun l args s v s' ι' w' r' h' => hround l args s v s' ι' base w' r' h') h _
  | false =>
    rw [hc] at h2
    simp only at h hid
    rw [oneOp_eq h2] at h
    have says := op_ok (id := id) h1 hv r h
    cases hcl : c.cl with
    | p =>
      obtain ⟨rfl, hok⟩ := says.q (by unfold isQ; rw [hcl])
      exact (hok.does r).op
    | l =>
      obtain ⟨rfl, hok⟩ := says.q (by unfold isQ; rw [hcl])
      exact (hok.does r).op
    | n =>
      obtain ⟨g1, g2, g3⟩ := hid hcl
      intro next Q hn
      exact (says.n hcl g1 g2 g3).op next Q fun κ v' w' e1 e2 => hn κ v' w' (e1.mono fun x hx => ⟨hx, rfl⟩) e2
    | w => exact (says.w_ hcl _).op

theorem oper_ok {call : Caller} (hcall : GoodCall P call) {round : Rounder} (hround : NoRound round) {i : Nat} (hro : rOper P nt ops o i = some co) (hf : FR ι fr nt a.tmps) (hg : Globs P ι) (r : Rel ι base s w)
    (hid : co.op.cl = .n → id < s.next ∧ s.get id = none ∧ ι id = none) (h : (oneOp co.op).run call round fr s id = some (v, s')) : DoesOp P (fun x => x = id ∧ co.op.cl = .n) ι base s w o a v s' := by
  obtain ⟨c, _, _, _, _, h4⟩ := rOper_eq hro
  exact oper_ok' hcall hround hro (ops_of hf hg h4) hg r hid h

theorem wanted_ok' {i : Nat} (hro : rOper P nt ops o i = some co) (hf : ∀ j want t, o.guard = some (j, want) → (ops[j]?).bind (·.dst) = some t → VR ι (orUndef (fr.get t)) (a.tmps.getD t Go.undef)) : Region.wanted o (yielded ops a.tmps) = (Option.rec true (fun g => wanted g fr) co.guard : Bool) := by
  obtain ⟨c, _, rfl, _⟩ := rOper_eq hro
  unfold Region.wanted
  cases hgd : o.guard with
  | none => rfl
  | some jw =>
    obtain ⟨j, want⟩ := jw
    show (yielded ops a.tmps j == some want) = wanted ((ops[j]?).bind (·.dst), want) fr
    unfold yielded wanted
    cases ht : (ops[j]?).bind (·.dst) with
    | none => rfl
    | some t =>
      have hval := hf j want t hgd ht
      rw [Array.getD_eq_getD_getElem?] at hval
      simp only [Option.bind_some, ob_some]
      cases hfr : fr.get t with
      | none =>
        rw [hfr] at hval
        simp only [ob_none]
        obtain ⟨m, hm, hl⟩ := VR.tupE (l := []) hval
        cases hl
        cases e : a.tmps[t]? with
        | none => rfl
        | some x => rw [e] at hm; simp only [Option.getD_some] at hm; subst hm; rfl
      | some v =>
        rw [hfr] at hval
        simp only [ob_some]
        cases hb : asBool v with
        | some b =>
          rw [asBool_eq hb] at hval
          have := hval.boolE
          cases e : a.tmps[t]? with
          | none => rw [e] at this; cases this
          | some x =>
            rw [e] at this
            simp only [Option.getD_some] at this
            subst this
            cases b <;> cases want <;> rfl
        | none =>
          cases e : a.tmps[t]? with
          | none => rfl
          | some x =>
            rw [e] at hval
            simp only [Option.getD_some] at hval
            have hval : VR ι v x := hval
            cases hval <;> first | rfl | (simp [asBool] at hb; done)

theorem wanted_ok {i : Nat} (hro : rOper P nt ops o i = some co) (hf : FR ι fr nt a.tmps) : Region.wanted o (yielded ops a.tmps) = (Option.rec true (fun g => wanted g fr) co.guard : Bool) :=
  wanted_ok' hro fun _ _ t _ _ => hf.val t

variable {call : Caller} {round : Rounder}
theorem runOps_cons (b : Nat) (l : List COper) (fr : Fr) (s : St) : runOps call round b (co :: l) fr s = stepOp call round b co (runOps call round b l) fr s := rfl
theorem stepOp_eq (b : Nat) (go : Fr → St → RF) (fr : Fr) (s : St) (h : co.again = []) :
    stepOp call round b co go fr s = if (Option.rec true (fun g => wanted g fr) co.guard : Bool) = true then (ob ((oneOp co.op).run call round fr s (b + co.ix)) fun r => go (putD fr co.dst r.1) r.2) else go (putD fr co.dst undef) s := by
  have hd : doOp call round b co go fr s = ob ((oneOp co.op).run call round fr s (b + co.ix)) fun r => go (putD fr co.dst r.1) r.2 := by
    unfold doOp
    rw [h]
    cases (oneOp co.op).run call round fr s (b + co.ix) <;> rfl
  unfold stepOp
  cases co.guard with
  | none => simp [hd]
  | some g =>
    show (Bool.rec (go (putD fr co.dst undef) s) (doOp call round b co go fr s) (wanted g fr) : RF) = _
    cases hw : wanted g fr
    · rw [if_neg (by simp [hw])]
    · rw [if_pos (by simp [hw])]
      exact hd

/-- The numbers that a region keeps for what it makes. -/
def mine (b n : Nat) : Nat → Prop := fun x => b ≤ x ∧ x < b + n

theorem Act.put_defers' (a : Act) (d : Option Tmp) (v : Value) : (a.put d v).defers = a.defers := by cases d <;> rfl

theorem ops_ok (hcall : GoodCall P call) (hround : NoRound round) {b n : Nat} {base : Nat} {ds : List Deferred} {Q : Exit → Act → World → Prop} : ∀ (suf : List Oper) (k : Nat), (∀ j, suf[j]? = ops[k + j]?) → ∀ (cs : List COper),
    (suf.zipIdx k).mapM (fun (o, i) => rOper P nt ops o i) = some cs → (∀ c ∈ cs, c.op.cl = .n → b + c.ix < b + n) →
    ∀ (ι : Inj) (fr fr' : Fr) (s s' : St) (w : World) (a : Act), FR ι fr nt a.tmps → Globs P ι → Rel ι base s w → a.defers = ds → b + n ≤ s.next → (∀ i, k ≤ i → i < n → s.get (b + i) = none ∧ ι (b + i) = none) →
    runOps call round b cs fr s = some (fr', s') →
    (∀ κ a' w', Ext (mine b n) ι base s w κ s' w' → FR κ fr' nt a'.tmps → a'.defers = ds → Q .normal a' w') → wpOps P ops Q (List.range' k suf.length) a w := by
  intro suf
  induction suf with
  | nil =>
    intro k _ cs hcs _ ι fr fr' s s' w a hf hg r hds hb hid hrun hQ
    simp at hcs
    subst hcs
    cases hrun
    exact hQ ι a w (Ext.refl r) hf hds
  | cons o suf ih =>
    intro k hsuf cs hcs hn ι fr fr' s s' w a hf hg r hds hb hid hrun hQ
    rw [List.zipIdx_cons, List.mapM_cons] at hcs
    obtain ⟨co, hco, hcs⟩ := Option.bind_eq_some_iff.1 hcs
    obtain ⟨cs2, hcs2, hcs⟩ := Option.bind_eq_some_iff.1 hcs
    cases hcs
    have hsuf2 : ∀ j, suf[j]? = ops[k + 1 + j]? := by
      intro j
      have := hsuf (j + 1)
      rw [List.getElem?_cons_succ] at this
      rw [this]; congr 1; omega
    have hok : ops[k]? = some o := by have := hsuf 0; simpa using this.symm
    obtain ⟨c, _, hce, _, hdst, _⟩ := rOper_eq hco
    have hix : co.ix = k := by rw [hce]
    have hag : co.again = [] := by rw [hce]
    have hd : co.dst = o.dst := by rw [hce]
    rw [runOps_cons, stepOp_eq _ _ _ _ hag, ← wanted_ok hco hf, hd] at hrun
    rw [List.length_cons, List.range'_succ]
    show (match ops[k]? with
      | none => _
      | some o => if Region.wanted o (yielded ops a.tmps) then o.wp P a w (wpOps P ops Q (List.range' (k + 1) suf.length)) Q ∨ (o.asks P a w ∧ LetsOut Q) else wpOps P ops Q (List.range' (k + 1) suf.length) (a.put o.dst undef) w)
    rw [hok]
    simp only
    split at hrun
    · rename_i hw
      rw [if_pos hw]
      obtain ⟨⟨v, s1⟩, h1, h2⟩ := ob_eq.1 hrun
      simp only at h2
      left
      rw [hix] at h1
      have hkn : co.op.cl = .n → k < n := fun h => by have := hn co (by simp) h; rw [hix] at this; omega
      refine oper_ok hcall hround hco hf hg r (fun h => ⟨by have := hkn h; omega, hid k (Nat.le_refl _) (hkn h)⟩) h1 _ _ ?_
      intro κ v' w' e1 e2
      refine ih (k + 1) hsuf2 cs2 hcs2 (fun c hc => hn c (by simp [hc])) κ _ fr' s1 s' w' (a.put o.dst v') ?_ (hg.mono e1.le) e1.rel (by rw [Act.put_defers', hds]) (Nat.le_trans hb e1.next) ?_ h2 ?_
      · exact (hf.mono e1.le).put hdst e2
      · intro i hi1 hi2
        obtain ⟨g1, g2⟩ := hid i (by omega) hi2
        obtain ⟨g3, g4⟩ := e1.gone (b + i) (by omega) (by rintro ⟨hh, _⟩; omega) g1
        exact ⟨g3, g4 g2⟩
      · intro μ a' w'' e3 e4 e5
        exact hQ μ a' w'' ((e1.mono (by rintro x ⟨rfl, hcl⟩; have := hkn hcl; exact ⟨by omega, by omega⟩)).trans e3) e4 e5
    · rename_i hw
      rw [if_neg hw]
      refine ih (k + 1) hsuf2 cs2 hcs2 (fun c hc => hn c (by simp [hc])) ι _ fr' s s' w (a.put o.dst undef) ?_ hg r (by rw [Act.put_defers', hds]) hb (fun i hi1 hi2 => hid i (by omega) hi2) hrun hQ
      exact hf.put hdst .undef

theorem Ext.skipped {κ : Inj} {w' : World} {n : Nat} (h : Ext (mine s.next n) ι base (s.skip n) w κ s' w') : Ext none_ ι base s w κ s' w' := by
  rw [St.skip_eq] at h
  refine ⟨h.le, h.rel, by have := h.next; simp at this; omega, fun a ha _ g1 => h.gone a (by simp; omega) (by rintro ⟨h1, _⟩; omega) g1, h.keep, h.img, h.size, h.os, h.tape, h.output⟩

theorem mapM_ix {l : List Oper} {ys : List COper} (h : l.zipIdx.mapM (fun (o, i) => rOper P nt ops o i) = some ys) : ys.length = l.length ∧ ∀ c ∈ ys, c.ix < l.length := by
  have hlen : ∀ (xs : List (Oper × Nat)) (ys : List COper), xs.mapM (fun (o, i) => rOper P nt ops o i) = some ys → ys.length = xs.length ∧ ∀ c ∈ ys, ∃ x ∈ xs, c.ix = x.2 := by
    intro xs
    induction xs with
    | nil => intro ys h; simp at h; subst h; simp
    | cons x xs ih =>
      intro ys h
      rw [List.mapM_cons] at h
      obtain ⟨y, hy, h⟩ := Option.bind_eq_some_iff.1 h
      obtain ⟨ys2, hys, h⟩ := Option.bind_eq_some_iff.1 h
      cases h
      obtain ⟨h1, h2⟩ := ih ys2 hys
      refine ⟨by simp [h1], ?_⟩
      intro c hc
      rcases List.mem_cons.1 hc with rfl | hc
      · obtain ⟨_, _, e, _⟩ := rOper_eq hy
        exact ⟨x, by simp, by rw [e]⟩
      · obtain ⟨x2, hx2, e⟩ := h2 c hc
        exact ⟨x2, by simp [hx2], e⟩
  obtain ⟨h1, h2⟩ := hlen _ _ h
  rw [List.length_zipIdx] at h1
  refine ⟨h1, fun c hc => ?_⟩
  obtain ⟨x, hx, e⟩ := h2 c hc
  have := List.snd_lt_of_mem_zipIdx hx
  omega

/-- A region whose order is the text's. -/
theorem region_ok (hcall : GoodCall P call) (hround : NoRound round) {rid : Nat} {Q : Exit → Act → World → Prop} {news : Nat} {cs : List COper} (hr : rRegion P nt ops false = .region news cs) {fr' : Fr}
    (hf : FR ι fr nt a.tmps) (hg : Globs P ι) (r : Rel ι base s w) (h : runOps call round s.next cs fr (s.skip news) = some (fr', s'))
    (hQ : ∀ κ a' w', Ext none_ ι base s w κ s' w' → FR κ fr' nt a'.tmps → a'.defers = a.defers → Q .normal a' w') : (Code.region rid ops false).wp P Q a w := by
  unfold rRegion at hr
  split at hr
  · rename_i l hl
    simp only [Bool.false_eq_true, if_false] at hr
    split at hr
    · cases hr
    cases hr
    refine wp_region ?_
    have hlen : ∀ (xs : List (Oper × Nat)) (ys : List COper), xs.mapM (fun (o, i) => rOper P nt ops o i) = some ys → ys.length = xs.length ∧ ∀ c ∈ ys, ∃ x ∈ xs, c.ix = x.2 := by
      intro xs
      induction xs with
      | nil => intro ys h; simp at h; subst h; simp
      | cons x xs ih =>
        intro ys h
        rw [List.mapM_cons] at h
        obtain ⟨y, hy, h⟩ := Option.bind_eq_some_iff.1 h
        obtain ⟨ys2, hys, h⟩ := Option.bind_eq_some_iff.1 h
        cases h
        obtain ⟨h1, h2⟩ := ih ys2 hys
        refine ⟨by simp [h1], ?_⟩
        intro c hc
        rcases List.mem_cons.1 hc with rfl | hc
        · obtain ⟨_, _, e, _⟩ := rOper_eq hy
          exact ⟨x, by simp, by rw [e]⟩
        · obtain ⟨x2, hx2, e⟩ := h2 c hc
          exact ⟨x2, by simp [hx2], e⟩
    obtain ⟨h1, h2⟩ := hlen _ _ hl
    rw [List.length_zipIdx, Array.length_toList] at h1
    generalize hnn : (if (cs.any fun o => o.op.cl == .n || (match o.op with | .rangeM _ => true | _ => false)) = true then cs.length else 0) = nn at h
    rw [List.range_eq_range']
    have := ops_ok (b := s.next) (n := nn) (base := base) (ds := a.defers) (Q := Q) hcall hround ops.toList 0 (fun j => by rw [Array.getElem?_toList]; simp) cs hl ?_ ι fr fr' _ s' w a hf hg
      (Ext.bump (S := none_) r nn).rel rfl (by simp) ?_ (by rw [← St.skip_eq]; exact h) ?_
    · rw [Array.length_toList] at this; exact this
    · intro c hc hcl
      have hany : (cs.any fun o => o.op.cl == .n || (match o.op with | .rangeM _ => true | _ => false)) = true := List.any_eq_true.2 ⟨c, hc, by rw [hcl]; rfl⟩
      rw [if_pos hany] at hnn
      obtain ⟨x, hx, e⟩ := h2 c hc
      have := List.snd_lt_of_mem_zipIdx hx
      have h3 : cs.length = ops.toList.length := h1
      omega
    · intro i _ hi
      have := r.next (s.next + i) (by omega)
      exact this
    · intro κ a' w' e1 e2 e3
      rw [← St.skip_eq] at e1
      exact hQ κ a' w' e1.skipped e2 e3
  · cases hr
end
end Go.Ev
