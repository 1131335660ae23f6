/-
  Regions whose calls may end in several ways.
-/
import Derived.Test.YticaodbgdjjgdaaGreatDoorEvRegion
set_option linter.unusedVariables false
set_option linter.unusedSimpArgs false
namespace Go.Ev
open Go (Sem)

section
variable {α β : Type}
theorem bindM_cons (k : α → Option (List β)) (x : α) (l : List α) : bindM k (x :: l) = ob (k x) fun a => om (bindM k l) fun b => appL a b := rfl
theorem bindM_eq {k : α → Option (List β)} : ∀ {l : List α} {r : List β}, bindM k l = some r → ∀ x ∈ l, ∃ a, k x = some a ∧ ∀ y ∈ a, y ∈ r := by
  intro l
  induction l with
  | nil => intro r _ x hx; simp at hx
  | cons x l ih =>
    intro r h
    rw [bindM_cons] at h
    obtain ⟨a, ha, h2⟩ := ob_eq.1 h
    obtain ⟨b, hb, h3⟩ := om_eq.1 h2
    subst h3
    intro z hz
    rcases List.mem_cons.1 hz with rfl | hz
    · exact ⟨a, ha, fun y hy => by rw [appL_eq]; exact List.mem_append_left _ hy⟩
    · obtain ⟨c, hc, hc2⟩ := ih hb z hz
      exact ⟨c, hc, fun y hy => by rw [appL_eq]; exact List.mem_append_right _ (hc2 y hy)⟩
theorem bindL_eq {k : α → Option (List β)} {l : List α} {r : List β} (h : bindL l k = some r) : ∀ x ∈ l, ∃ a, k x = some a ∧ ∀ y ∈ a, y ∈ r := by
  cases l with
  | nil => intro x hx; simp at hx
  | cons x l => cases l with
    | nil =>
      intro z hz
      obtain rfl : z = x := by simpa using hz
      exact ⟨r, h, fun y hy => hy⟩
    | cons y l => exact bindM_eq h
theorem oneL_eq {r : Option (List α)} {x : α} (h : oneL r = some x) : r = some [x] := by
  obtain ⟨l, hl, h2⟩ := ob_eq.1 h
  cases l with
  | nil => cases h2
  | cons y l => cases l with
    | nil => cases h2; exact hl
    | cons z l => cases h2
theorem optL_mem {f : α → Option β} : ∀ {l : List α} {m : List β}, optL f l = some m → ∀ x ∈ l, ∃ y, y ∈ m ∧ f x = some y := by
  intro l
  induction l with
  | nil => intro m _ x hx; simp at hx
  | cons x l ih =>
    intro m h
    rw [optL_cons] at h
    obtain ⟨y, hy, h2⟩ := ob_eq.1 h
    obtain ⟨m2, hm, h3⟩ := om_eq.1 h2
    subst h3
    intro z hz
    rcases List.mem_cons.1 hz with rfl | hz
    · exact ⟨y, by simp, hy⟩
    · obtain ⟨u, hu, hu2⟩ := ih hm z hz
      exact ⟨u, by simp [hu], hu2⟩
end

/-- The machine's calls stand for the model's: in one of the ways told. -/
def GoodCallL (P : Program) (call : CallerL) : Prop :=
  ∀ (ι : Inj) (base : Nat) (s : St) (w : World) (f : FuncId) (args args' : List Value) (l : List (Value × St)), Globs P ι → Rel ι base s w → LR ι args args' → call f args s = some l →
    CallDo P f ⟨args'⟩ w fun v' w' => ∃ out ∈ l, ∃ κ, Ext none_ ι base s w κ out.2 w' ∧ VR κ out.1 v'
theorem CallDo.mono {P : Program} {f : FuncId} {args : Array Value} {w : World} {R R' : Value → World → Prop} (h : CallDo P f args w R) (hh : ∀ v w', R v w' → R' v w') : CallDo P f args w R' := by
  rcases h with ⟨v, w', h1, h2⟩ | ⟨h1, h2⟩
  · exact .inl ⟨v, w', h1, hh _ _ h2⟩
  · refine .inr ⟨h1, h2.mono fun e w' he => ?_⟩
    cases e with
    | returned v => exact hh _ _ he
    | _ => exact he.elim
theorem GoodCallL.one {P : Program} {call : CallerL} (h : GoodCallL P call) : GoodCall P (one1 call) := by
  intro ι base s w f args args' v s' hg r ha hc
  refine (h ι base s w f args args' [(v, s')] hg r ha (oneL_eq hc)).mono fun v' w' ⟨out, hm, κ, e1, e2⟩ => ?_
  obtain rfl : out = (v, s') := by simpa using hm
  exact ⟨κ, e1, e2⟩

/-- What an operation does: in one of the ways told. -/
def DoesOpL (P : Program) (S : Nat → Prop) (ι : Inj) (base : Nat) (s : St) (w : World) (o : Oper) (a : Act) (l : List (Value × St)) : Prop :=
  ∀ (next : Act → World → Prop) (Q : Exit → Act → World → Prop), (∀ out ∈ l, ∀ κ v' w', Ext S ι base s w κ out.2 w' → VR κ out.1 v' → next (a.put o.dst v') w') → o.wp P a w next Q

section
variable {P : Program} {ι : Inj} {w : World} {base : Nat} {s : St} {o : Oper} {a : Act} {fr : Fr} {id nt : Nat} {v : Value} {s' : St} {co : COper} {ops : Array Oper} {c : Cop}

theorem call_okL {call : CallerL} (hcall : GoodCallL P call) (hr : rOp P o.op = some c) (hc : isValueCall o.op = true) (hv : Ops ι o a fr) (hg : Globs P ι) (r : Rel ι base s w) {l : List (Value × St)}
    (h : (oneOpL c).run call noRoundL fr s id = some l) (S : Nat → Prop) : DoesOpL P S ι base s w o a l := by
  cases ho : o.op with
  | call cl =>
    cases hcl : cl.callee with
    | builtin b =>
      rw [ho] at hc
      unfold isValueCall at hc
      simp only [hcl] at hc
      cases hc
    | value f =>
      have h1 : ∀ x ∈ cl.args.toList, VR ι ((rArg x).ev fr) (a.eval x) := fun x hx => hv x (by
        rw [ho]; simp only [Op.operands, Call.operands, hcl]; simp [hx] <;> first | exact .inr (by simpa using hx) | exact .inl (by simpa using hx))
      have h2 : VR ι ((rArg f).ev fr) (a.eval f) := hv f (by rw [ho]; simp [Op.operands, Call.operands, hcl])
      have hl := lr_ops h1
      have hexec : (execOp a.eval o).run P w = (do let d ← Deferred.ofValue (a.eval f) (cl.args.map a.eval); invoke d.target d.args : Sem Next).run P w := by
        simp only [execOp, ho, resolve, hcl]
      intro next Q hn
      unfold Oper.wp
      rw [hexec]
      have fin : ∀ (g : FuncId) (args args' : List Value), LR ι args args' → call g args s = some l → o.upon P a next Q ((callFunc g ⟨args'⟩).run P w) := by
        intro g args args' hla hcg
        refine (hcall ι base s w g args args' l hg r hla hcg).upon next Q ?_
        intro v' w' ⟨out, hm, κ, e1, e2⟩
        exact hn out hm κ v' w' (e1.mono fun _ h => h.elim) e2
      rw [ho] at hr
      unfold rOp at hr
      simp only [hcl] at hr
      split at hr
      · -- a function by its name
        rename_i g hcl2
        cases hcl2
        cases hr
        have h : call g (evL fr (cl.args.toList.map rArg)) s = some l := h
        have := fin g _ _ hl h
        have e1 : (⟨cl.args.toList.map a.eval⟩ : Array Value) = cl.args.map a.eval := by apply Array.ext'; simp
        rw [e1] at this
        simpa [Deferred.ofValue, Act.eval, invoke, Result.andThen] using this
      · -- a value
        rename_i f1 _ hcl2
        cases hcl2
        cases hr
        have h : callVL call noRoundL ((rArg f).ev fr) (evL fr (cl.args.toList.map rArg)) s = some l := h
        obtain ⟨⟨fn, first, capt⟩, hf, h⟩ := ob_eq.1 h
        rw [asFunc_eq hf] at h2
        cases fn with
        | func g =>
          simp only at h2
          have h : call g (appL first (appL (evL fr (cl.args.toList.map rArg)) capt)) s = some l := h
          rw [appL_eq, appL_eq] at h
          generalize hF : a.eval f = F at h2
          cases h2 with
          | func hfn ha hav hcc hcv =>
            cases hfn
            have := fin g _ _ ((LR.of ha hav).append (hl.append (LR.of hcc hcv))) h
            have e1 : ∀ (x y : List Value), (⟨x ++ (cl.args.toList.map a.eval ++ y)⟩ : Array Value) = (⟨x⟩ ++ cl.args.map a.eval) ++ ⟨y⟩ := by intro x y; apply Array.ext'; simp
            rw [e1] at this
            simpa [Deferred.ofValue, invoke, Result.andThen] using this
        | yield l =>
          obtain ⟨l', _, h⟩ := ob_eq.1 (show ob (fnYield (.yield l)) (fun l => noRoundL l (evL fr (cl.args.toList.map rArg)) s) = some _ from h)
          cases h
        | _ => cases h
      · cases hr
      · rename_i hh; cases hh
    | invoke x m =>
      rw [ho] at hr
      unfold rOp at hr
      simp only [hcl] at hr
      cases hr
  | _ =>
    rw [ho] at hc
    cases hc

theorem oneOpL_eq {c : Cop} (h : isCall c = false) (call : CallerL) (round : RounderL) (fr : Fr) (s : St) (id : Nat) : (oneOpL c).run call round fr s id = om ((cop c).run fr s id) fun r => [r] := by
  cases c <;> first | rfl | cases h

theorem noRound_no : NoRound noRound := fun l args s v s' ι base w r h => by cases h

theorem oper_okL {call : CallerL} (hcall : GoodCallL P call) {i : Nat} (hro : rOper P nt ops o i = some co) (hf : FR ι fr nt a.tmps) (hg : Globs P ι) (r : Rel ι base s w)
    (hid : co.op.cl = .n → id < s.next ∧ s.get id = none ∧ ι id = none) {l : List (Value × St)} (h : (oneOpL co.op).run call noRoundL fr s id = some l) : DoesOpL P (fun x => x = id ∧ co.op.cl = .n) ι base s w o a l := by
  obtain ⟨c, h1, h1', h2, h3, h4⟩ := rOper_eq hro
  cases hc : isValueCall o.op with
  | true =>
    have e : co.op = c := by rw [h1']
    rw [e] at h
    exact call_okL hcall h1 hc (ops_of hf hg h4) hg r h _
  | false =>
    have e : co.op = c := by rw [h1']
    have hnc : isCall co.op = false := by rw [e, h2, hc]
    rw [oneOpL_eq hnc] at h
    obtain ⟨⟨v, s'⟩, hv, hl⟩ := om_eq.1 h
    subst hl
    have := oper_ok (call := one1 call) hcall.one noRound_no hro hf hg r hid (by rw [oneOp_eq hnc]; exact hv)
    intro next Q hn
    exact this next Q fun κ v' w' e1 e2 => hn (v, s') (by simp) κ v' w' e1 e2

variable {call : CallerL}
theorem runOpsL_cons (b : Nat) (l : List COper) (fr : Fr) (s : St) : runOpsL call noRoundL b (co :: l) fr s = stepOpL call noRoundL b co (runOpsL call noRoundL b l) fr s := rfl
theorem stepOpL_eq (b : Nat) (go : Fr → St → RFL) (fr : Fr) (s : St) :
    stepOpL call noRoundL b co go fr s = if (Option.rec true (fun g => wanted g fr) co.guard : Bool) = true then (ob ((oneOpL co.op).run call noRoundL fr s (b + co.ix)) fun l => bindL l fun r => go (putD fr co.dst r.1) r.2) else go (putD fr co.dst undef) s := by
  unfold stepOpL
  cases co.guard with
  | none => simp [doOpL]
  | some g =>
    show (Bool.rec (go (putD fr co.dst undef) s) (doOpL call noRoundL b co go fr s) (wanted g fr) : RFL) = _
    cases hw : wanted g fr
    · rw [if_neg (by simp [hw])]
    · rw [if_pos (by simp [hw])]; rfl

theorem ops_okL (hcall : GoodCallL P call) {b n : Nat} {base : Nat} {ds : List Deferred} {Q : Exit → Act → World → Prop} {rest : List Nat} : ∀ (suf : List Oper) (k : Nat), (∀ j, j < suf.length → suf[j]? = ops[k + j]?) → ∀ (cs : List COper),
    (suf.zipIdx k).mapM (fun (o, i) => rOper P nt ops o i) = some cs → (∀ c ∈ cs, c.op.cl = .n → b + c.ix < b + n) →
    ∀ (ι : Inj) (fr : Fr) (s : St) (w : World) (a : Act) (l : List (Fr × St)), FR ι fr nt a.tmps → Globs P ι → Rel ι base s w → a.defers = ds → b + n ≤ s.next → (∀ i, k ≤ i → i < n → s.get (b + i) = none ∧ ι (b + i) = none) →
    runOpsL call noRoundL b cs fr s = some l →
    (∀ out ∈ l, ∀ κ a' w', Ext (mine b n) ι base s w κ out.2 w' → FR κ out.1 nt a'.tmps → a'.defers = ds → wpOps P ops Q rest a' w') → wpOps P ops Q (List.range' k suf.length ++ rest) a w := by
  intro suf
  induction suf with
  | nil =>
    intro k _ cs hcs _ ι fr s w a l hf hg r hds hb hid hrun hQ
    simp at hcs
    subst hcs
    cases hrun
    exact hQ (fr, s) (by simp) ι a w (Ext.refl r) hf hds
  | cons o suf ih =>
    intro k hsuf cs hcs hn ι fr s w a l hf hg r hds hb hid hrun hQ
    rw [List.zipIdx_cons, List.mapM_cons] at hcs
    obtain ⟨co, hco, hcs⟩ := Option.bind_eq_some_iff.1 hcs
    obtain ⟨cs2, hcs2, hcs⟩ := Option.bind_eq_some_iff.1 hcs
    cases hcs
    have hsuf2 : ∀ j, j < suf.length → suf[j]? = ops[k + 1 + j]? := by
      intro j hj
      have := hsuf (j + 1) (by simp; omega)
      rw [List.getElem?_cons_succ] at this
      rw [this]; congr 1; omega
    have hok : ops[k]? = some o := by have := hsuf 0 (by simp); simpa using this.symm
    obtain ⟨c, _, hce, _, hdst, _⟩ := rOper_eq hco
    have hix : co.ix = k := by rw [hce]
    have hd : co.dst = o.dst := by rw [hce]
    rw [runOpsL_cons, stepOpL_eq, ← wanted_ok hco hf, hd] at hrun
    rw [List.length_cons, List.range'_succ]
    show (match ops[k]? with
      | none => _
      | some o => if Region.wanted o (yielded ops a.tmps) then o.wp P a w (wpOps P ops Q (List.range' (k + 1) suf.length ++ rest)) Q ∨ (o.asks P a w ∧ LetsOut Q) else wpOps P ops Q (List.range' (k + 1) suf.length ++ rest) (a.put o.dst undef) w)
    rw [hok]
    simp only
    split at hrun
    · rename_i hw
      rw [if_pos hw]
      obtain ⟨lo, h1, h2⟩ := ob_eq.1 hrun
      left
      rw [hix] at h1
      have hkn : co.op.cl = .n → k < n := fun h => by have := hn co (by simp) h; rw [hix] at this; omega
      refine oper_okL hcall hco hf hg r (fun h => ⟨by have := hkn h; omega, hid k (Nat.le_refl _) (hkn h)⟩) h1 _ _ ?_
      intro out hout κ v' w' e1 e2
      obtain ⟨l2, h3, h4⟩ := bindL_eq h2 out hout
      refine ih (k + 1) hsuf2 cs2 hcs2 (fun c hc => hn c (by simp [hc])) κ _ out.2 w' (a.put o.dst v') l2 ?_ (hg.mono e1.le) e1.rel (by rw [Act.put_defers', hds]) (Nat.le_trans hb e1.next) ?_ h3 ?_
      · exact (hf.mono e1.le).put hdst e2
      · intro i hi1 hi2
        obtain ⟨g1, g2⟩ := hid i (by omega) hi2
        obtain ⟨g3, g4⟩ := e1.gone (b + i) (by omega) (by rintro ⟨hh, _⟩; omega) g1
        exact ⟨g3, g4 g2⟩
      · intro out2 hout2 μ a' w'' e3 e4 e5
        exact hQ out2 (h4 _ hout2) μ a' w'' ((e1.mono (by rintro x ⟨rfl, hcl⟩; have := hkn hcl; exact ⟨by omega, by omega⟩)).trans e3) e4 e5
    · rename_i hw
      rw [if_neg hw]
      refine ih (k + 1) hsuf2 cs2 hcs2 (fun c hc => hn c (by simp [hc])) ι _ s w (a.put o.dst undef) l ?_ hg r (by rw [Act.put_defers', hds]) hb (fun i hi1 hi2 => hid i (by omega) hi2) hrun hQ
      exact hf.put hdst .undef

/-- Operations that end in one way, one behind the other, with others behind them. -/
theorem ops_one (hcall : GoodCallL P call) {b n : Nat} {base : Nat} {ds : List Deferred} {Q : Exit → Act → World → Prop} {rest : List Nat} : ∀ (suf : List Oper) (k : Nat), (∀ j, j < suf.length → suf[j]? = ops[k + j]?) → ∀ (cs : List COper),
    (suf.zipIdx k).mapM (fun (o, i) => rOper P nt ops o i) = some cs → (∀ c ∈ cs, c.op.cl = .n → b + c.ix < b + n) →
    ∀ (ι : Inj) (fr fr' : Fr) (s s' : St) (w : World) (a : Act), FR ι fr nt a.tmps → Globs P ι → Rel ι base s w → a.defers = ds → b + n ≤ s.next → (∀ i, k ≤ i → i < n → s.get (b + i) = none ∧ ι (b + i) = none) →
    runOps (one1 call) noRound b cs fr s = some (fr', s') →
    (∀ κ a' w', Ext (mine b n) ι base s w κ s' w' → FR κ fr' nt a'.tmps → a'.defers = ds → wpOps P ops Q rest a' w') → wpOps P ops Q (List.range' k suf.length ++ rest) a w := by
  intro suf k hsuf cs hcs hn ι fr fr' s s' w a hf hg r hds hb hid hrun hQ
  refine ops_okL hcall suf k hsuf cs hcs hn ι fr s w a [(fr', s')] hf hg r hds hb hid ?_ (fun out hout κ a' w' e1 e2 e3 => by
    obtain rfl : out = (fr', s') := by simpa using hout
    exact hQ κ a' w' e1 e2 e3)
  -- one way is a list of one
  clear hQ hid hb hds r hg hf hn hsuf w a ι ds
  revert k cs fr s
  induction suf with
  | nil => intro k cs hcs fr s hrun; simp at hcs; subst hcs; cases hrun; rfl
  | cons o suf ih =>
    intro k cs hcs fr s hrun
    rw [List.zipIdx_cons, List.mapM_cons] at hcs
    obtain ⟨co, hco, hcs⟩ := Option.bind_eq_some_iff.1 hcs
    obtain ⟨cs2, hcs2, hcs⟩ := Option.bind_eq_some_iff.1 hcs
    cases hcs
    obtain ⟨c, _, hce, _⟩ := rOper_eq hco
    have hag : co.again = [] := by rw [hce]
    rw [runOps_cons, stepOp_eq _ _ _ _ hag] at hrun
    rw [runOpsL_cons, stepOpL_eq]
    split at hrun
    · rename_i hw
      rw [if_pos hw]
      obtain ⟨⟨v, s1⟩, h1, h2⟩ := ob_eq.1 hrun
      have hone : (oneOpL co.op).run call noRoundL fr s (b + co.ix) = some [(v, s1)] := by
        cases hc : isCall co.op with
        | false =>
          rw [oneOp_eq hc] at h1
          rw [oneOpL_eq hc, h1]; rfl
        | true =>
          cases hop : co.op <;> rw [hop] at hc h1 <;> first | (cases hc; done) | skip
          · exact oneL_eq h1
          · rename_i f args
            obtain ⟨p, hp, h3⟩ := ob_eq.1 (show callV (one1 call) noRound (f.ev fr) (evL fr args) s = some (v, s1) from h1)
            show callVL call noRoundL (f.ev fr) (evL fr args) s = some [(v, s1)]
            unfold callVL
            rw [hp, ob_some]
            cases hfn : fnId p.1 with
            | none =>
              rw [hfn] at h3
              obtain ⟨q, hq, h4⟩ := ob_eq.1 h3
              cases h4
            | some g =>
              rw [hfn] at h3
              exact oneL_eq h3
      rw [hone, ob_some]
      exact ih (k + 1) cs2 hcs2 _ _ h2
    · rename_i hw
      rw [if_neg hw]
      exact ih (k + 1) cs2 hcs2 _ _ hrun

/-- A region whose order is the text's, and that calls. -/
theorem region_okL (hcall : GoodCallL P call) {rid : Nat} {Q : Exit → Act → World → Prop} {news : Nat} {cs : List COper} (hr : rRegion P nt ops false = .many news cs) {l : List (Fr × St)}
    (hf : FR ι fr nt a.tmps) (hg : Globs P ι) (r : Rel ι base s w) (h : runOpsL call noRoundL s.next cs fr (s.skip news) = some l)
    (hQ : ∀ out ∈ l, ∀ κ a' w', Ext none_ ι base s w κ out.2 w' → FR κ out.1 nt a'.tmps → a'.defers = a.defers → Q .normal a' w') : (Code.region rid ops false).wp P Q a w := by
  unfold rRegion at hr
  split at hr
  · rename_i l0 hl
    simp only [Bool.false_eq_true, if_false] at hr
    split at hr
    · cases hr
      refine wp_region ?_
      obtain ⟨h1, h2⟩ := mapM_ix hl
      have hsz := Array.length_toList (xs := ops)
      generalize hnn : (if (cs.any fun o => o.op.cl == .n || (match o.op with | .rangeM _ => true | _ => false)) = true then cs.length else 0) = nn at h
      have := ops_okL (b := s.next) (n := nn) (base := base) (ds := a.defers) (Q := Q) (rest := []) hcall ops.toList 0 (fun j _ => by rw [Array.getElem?_toList]; simp) cs hl ?_ ι fr _ w a l hf hg
        (Ext.bump (S := none_) r nn).rel rfl (by simp) ?_ (by rw [← St.skip_eq]; exact h) ?_
      · rw [List.append_nil, Array.length_toList, ← List.range_eq_range'] at this; exact this
      · intro c hc hcl
        have hany : (cs.any fun o => o.op.cl == .n || (match o.op with | .rangeM _ => true | _ => false)) = true := List.any_eq_true.2 ⟨c, hc, by rw [hcl]; rfl⟩
        rw [if_pos hany] at hnn
        have := h2 c hc
        omega
      · intro i _ hi
        have := r.next (s.next + i) (by omega)
        exact this
      · intro out hout κ a' w' e1 e2 e3
        rw [← St.skip_eq] at e1
        exact hQ out hout κ a' w' e1.skipped e2 e3
    · cases hr
  · cases hr
end
end Go.Ev
