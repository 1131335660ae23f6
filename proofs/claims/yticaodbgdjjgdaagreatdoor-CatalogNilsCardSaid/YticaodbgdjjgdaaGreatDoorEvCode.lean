/-
  Code, and calls.
-/
import Derived.Test.YticaodbgdjjgdaaGreatDoorEvMerge
set_option linter.unusedVariables false
set_option linter.unusedSimpArgs false
namespace Go.Ev
open Go (Sem)

/-- How code ends. -/
def exR : Ex → Exit → Prop
  | .normal, .normal => True
  | .exit i, .exit j => i = j
  | .ret, .ret => True
  | _, _ => False
/-- What holds behind code. -/
def Post (P : Program) (nt : Nat) (ι : Inj) (base : Nat) (s : St) (w : World) (ds : List Deferred) (e : Ex) (fr' : Fr) (s' : St) : Exit → Act → World → Prop := fun x a' w' =>
  exR e x ∧ a'.defers = ds ∧ ∃ κ, Ext none_ ι base s w κ s' w' ∧ FR κ fr' nt a'.tmps

/-- What the machine does for a region whose order is open. -/
def DrawGood (P : Program) : Prop :=
  ∀ (nt : Nat) (ops : Array Oper) (rid : Nat) (call : Caller) (round : Rounder), GoodCall P call → NoRound round → ∀ (news : Nat) (cs : List COper), rRegion P nt ops true = .region news cs →
    ∀ (ι : Inj) (base : Nat) (fr fr' : Fr) (s s' : St) (w : World) (a : Act) (Q : Exit → Act → World → Prop), FR ι fr nt a.tmps → Globs P ι → Rel ι base s w → runOps call round s.next cs fr (s.skip news) = some (fr', s') →
    (∀ κ a' w', Ext none_ ι base s w κ s' w' → FR κ fr' nt a'.tmps → a'.defers = a.defers → Q .normal a' w') → (Code.region rid ops true).wp P Q a w

/-- In a round of a loop. -/
def LoopWp (P : Program) (c : Code) (Q : Exit → Act → World → Prop) (a : Act) (w : World) : Prop :=
  ∀ (b : Frame) (k : List Item) (cs : List Frame), ∃ e a' w', Q e a' w' ∧ Arrives P (lone (b.at a (.code c :: .inLoop c :: k)) cs w) b k cs e a' w'
theorem LoopWp.wp {P : Program} {c : Code} {Q : Exit → Act → World → Prop} {a : Act} {w : World} (h : LoopWp P c Q a w) : (Code.loop c).wp P Q a w := by
  intro b k cs
  obtain ⟨e, a', w', hq, harr⟩ := h b k cs
  exact ⟨e, a', w', hq, .of_steps (.one step_loop) harr⟩
theorem loopWp_round {P : Program} {c : Code} {Q : Exit → Act → World → Prop} {a : Act} {w : World} (h : c.wp P (Exit.then (LoopWp P c Q) Q) a w) : LoopWp P c Q a w := by
  intro b k cs
  obtain ⟨e, a₁, w₁, hq, harr⟩ := h b (.inLoop c :: k) cs
  cases e with
  | normal =>
    obtain ⟨e₂, a₂, w₂, hq₂, harr₂⟩ := hq b k cs
    exact ⟨e₂, a₂, w₂, hq₂, .of_steps (Steps.trans harr (.one step_inLoop)) harr₂⟩
  | exit id => exact ⟨_, a₁, w₁, hq, .pass (x := .inLoop c) rfl (fun _ _ => .inl (by simp)) harr⟩
  | goto l => exact ⟨_, a₁, w₁, hq, .pass (x := .inLoop c) rfl (fun _ _ => .inl (by simp)) harr⟩
  | ret => exact ⟨_, a₁, w₁, hq, .pass (x := .inLoop c) rfl (fun _ _ => .inl (by simp)) harr⟩
  | panic ch => exact ⟨_, a₁, w₁, hq, .pass (x := .inLoop c) rfl (fun _ _ => .inl (by simp)) harr⟩
  | outgrown => exact ⟨_, a₁, w₁, hq, .pass (x := .inLoop c) rfl (fun _ _ => .inl (by simp)) harr⟩

/-- Code does what the machine does: a loop, from within. -/
def Goes (P : Program) (c : Code) (Q : Exit → Act → World → Prop) (a : Act) (w : World) : Prop := match c with
  | .loop b => LoopWp P b Q a w
  | c => c.wp P Q a w
theorem Goes.wp {P : Program} {c : Code} {Q : Exit → Act → World → Prop} {a : Act} {w : World} (h : Goes P c Q a w) : c.wp P Q a w := by
  cases c <;> first | exact h | exact LoopWp.wp h

/-- What holds behind code: it ended in one of the ways told. -/
def PostL (P : Program) (nt : Nat) (ι : Inj) (base : Nat) (s : St) (w : World) (ds : List Deferred) (l : List (Ex × Fr × St)) : Exit → Act → World → Prop := fun x a' w' =>
  ∃ out ∈ l, Post P nt ι base s w ds out.1 out.2.1 out.2.2 x a' w'
theorem PostL.one {P : Program} {nt : Nat} {ι : Inj} {base : Nat} {s : St} {w : World} {ds : List Deferred} {e : Ex} {fr' : Fr} {s' : St} {x : Exit} {a' : Act} {w' : World} (h : Post P nt ι base s w ds e fr' s' x a' w') : PostL P nt ι base s w ds [(e, fr', s')] x a' w' :=
  ⟨(e, fr', s'), by simp, h⟩

def CodeOk (P : Program) (E : Env) (n : Nat) : Prop :=
  ∀ (nt : Nat) (c : Code) (ι : Inj) (base : Nat) (fr : Fr) (s : St) (w : World) (a : Act) (l : List (Ex × Fr × St)), FR ι fr nt a.tmps → Globs P ι → Rel ι base s w → runC E n (rCode P nt c) fr s = some l →
    Goes P c (PostL P nt ι base s w a.defers l) a w
/-- What the machine does for a loop over a map. -/
def MapGood (P : Program) : Prop :=
  ∀ (E : Env) (n : Nat), CodeOk P E n → GoodCallL P (callF E (runC E n)) → ∀ (nt : Nat) (x y : Code) (c : CCode), rMap P nt x y (rCode P nt y) = some c →
    ∀ (ι : Inj) (base : Nat) (fr : Fr) (s : St) (w : World) (a : Act) (l : List (Ex × Fr × St)), FR ι fr nt a.tmps → Globs P ι → Rel ι base s w → (stepC c).run E (runC E n) fr s = some l →
    (Code.seq x y).wp P (PostL P nt ι base s w a.defers l) a w

/-- No function that has a body has the name of the one that the model knows by its name. -/
def Named (P : Program) : Prop := ∀ (f : FuncId) (fn : Func), P.funcs[f]? = some fn → fn.body.isSome = true → fn.name ≠ "runtime.NumGoroutine"
/-- What is known of functions is right. -/
structure EnvOk (P : Program) (E : Env) : Prop where
  code : ∀ f fn, E.code f = some fn → rFunc P f = some fn
  prim : ∀ f p, E.prim f = some p → ∀ (ι : Inj) (base : Nat) (s : St) (w : World) (args args' : List Value) (v : Value) (s' : St), Globs P ι → Rel ι base s w → LR ι args args' → p args s = some (v, s') →
    CallDo P f ⟨args'⟩ w fun v' w' => ∃ κ, Ext none_ ι base s w κ s' w' ∧ VR κ v v'

section
variable {P : Program} {E : Env}

theorem FR.start {ι : Inj} {l m : List Value} (h : LR ι l m) (nt : Nat) : FR ι (Tr.ofList .e 0 l) nt ((⟨m⟩ : Array Value) ++ Array.replicate (nt - (⟨m⟩ : Array Value).size) Go.undef) := by
  refine ⟨by simp; omega, fun t => ?_⟩
  rw [Tr.get_ofList, Array.getD_eq_getD_getElem?, Array.getElem?_append]
  simp only [Nat.zero_le, true_and, Nat.zero_add, Nat.sub_zero]
  have hsz : (⟨m⟩ : Array Value).size = l.length := h.length.symm
  by_cases ht : t < l.length
  · rw [if_pos ht, if_pos (by rw [hsz]; exact ht), arr_get]
    have h1 : l[t]? = some l[t] := List.getElem?_eq_getElem ht
    obtain ⟨y, hy, hv⟩ := h.some h1
    rw [h1, hy]
    exact hv
  · rw [if_neg ht, if_neg (by rw [hsz]; exact ht), Tr.get_e]
    rw [Array.getElem?_replicate]
    split <;> exact .undef

def resSem (tmps : Array Value) : ResultVar → Sem Value
  | .tmp t => pure (tmps.getD t Go.undef)
  | .cell a t => do loadVar t (← Go.asAddr (tmps.getD a Go.undef))
theorem results_eq (fn : Func) (tmps : Array Value) : results fn tmps = (do
    let vs ← fn.results.mapM (resSem tmps)
    pure (if h : vs.size = 1 then vs[0] else .tuple vs)) := by
  unfold results
  congr 1

theorem res_ok {ι : Inj} {base : Nat} {s : St} {w : World} {fr : Fr} {nt : Nat} {tmps : Array Value} (hf : FR ι fr nt tmps) (r : Rel ι base s w) : ∀ (rs : List ResultVar) (cs : List CRes) (l : List Value), rs.mapM (rRes P) = some cs → optL (oneRes fr s) cs = some l →
    ∃ m : List Value, (rs.mapM (resSem tmps)).run P w = .ok m w ∧ LR ι l m := by
  intro rs
  induction rs with
  | nil =>
    intro cs l h1 h2
    simp at h1; subst h1
    cases h2
    exact ⟨[], rfl, .nil⟩
  | cons x rs ih =>
    intro cs l h1 h2
    rw [List.mapM_cons] at h1
    obtain ⟨c, hc, h1⟩ := Option.bind_eq_some_iff.1 h1
    obtain ⟨cs2, hcs, h1⟩ := Option.bind_eq_some_iff.1 h1
    cases h1
    rw [optL_cons] at h2
    obtain ⟨v, hv, h2⟩ := ob_eq.1 h2
    obtain ⟨l2, hl2, h2⟩ := om_eq.1 h2
    subst h2
    obtain ⟨m, hm, hlr⟩ := ih cs2 l2 hcs hl2
    have one : ∃ v', (resSem tmps x).run P w = .ok v' w ∧ VR ι v v' := by
      cases x with
      | tmp t =>
        cases hc
        cases hv
        exact ⟨_, rfl, hf.val t⟩
      | cell ad t =>
        obtain ⟨g, hg, hc⟩ := Option.bind_eq_some_iff.1 hc
        obtain ⟨n, hn, hc⟩ := Option.bind_eq_some_iff.1 hc
        cases hc
        obtain ⟨a0, ha0, hv⟩ := ob_eq.1 (show ob (Ev.asAddr (orUndef (fr.get ad))) (fun a => cnd g (om (s.row a n) fun l => Value.agg ⟨l⟩) (s.cell a)) = some v from hv)
        have hx := hf.val ad
        rw [asAddr_eq ha0] at hx
        obtain ⟨a', hx', ha⟩ := hx.ptrE
        unfold resSem
        simp only [hx']
        cases g with
        | true =>
          obtain ⟨l, hl, hv⟩ := om_eq.1 (show om (s.row a0 n) (fun l => Value.agg ⟨l⟩) = some v from hv)
          subst hv
          obtain ⟨g1, g2, m2, g3, g4⟩ := r.row ha hl
          refine ⟨.agg ⟨m2⟩, ?_, .aggI g2 g3⟩
          have := run_loadCells (P := P) (w := w) (by rw [← g3.length, g1]) g4
          simp [Go.asAddr, loadVar, run_isAgg hg, run_sizeOf hn, Result.andThen, this]
        | false =>
          obtain ⟨v', g1, g2, g3⟩ := r.cell ha (show s.cell a0 = some v from hv)
          refine ⟨v', ?_, g2⟩
          simp [Go.asAddr, loadVar, run_isAgg hg, Result.andThen, load, Sem.run, g1]
    obtain ⟨v', hv1, hv2⟩ := one
    refine ⟨v' :: m, ?_, .cons hv2 hlr⟩
    rw [List.mapM_cons, Sem.run_bind, hv1]
    simp only [Result.andThen]
    rw [Sem.run_bind, hm]
    rfl

theorem tupled_ok {ι : Inj} {l m : List Value} (h : LR ι l m) : VR ι (tupled l) (if h : (⟨m⟩ : Array Value).size = 1 then (⟨m⟩ : Array Value)[0] else .tuple ⟨m⟩) := by
  cases h with
  | nil => exact .tupI .nil
  | cons h t => cases t with
    | nil => exact h
    | cons h2 t2 => exact .tupI (.cons h (.cons h2 t2))

theorem body_goes {ι : Inj} {base : Nat} {s : St} {w : World} {f : FuncId} {fn : CFunc} {n : Nat} (hcode : CodeOk P E n) (hfn : rFunc P f = some fn) {args args' : List Value} {l : List (Value × St)} (hg : Globs P ι) (r : Rel ι base s w) (ha : LR ι args args')
    (h : ended fn (runC E n fn.body (Tr.ofList .e 0 args) s) = some l) :
    Calls P f ⟨args'⟩ w (fun | .returned v', w' => ∃ out ∈ l, ∃ κ, Ext none_ ι base s w κ out.2 w' ∧ VR κ out.1 v' | _, _ => False) ∧ ∃ fn0 b, P.funcs[f]? = some fn0 ∧ fn0.body = some b := by
  unfold rFunc at hfn
  split at hfn
  · rename_i fn0 hf0
    split at hfn
    · rename_i b rs hb hrs
      cases hfn
      obtain ⟨lx, h1, h2⟩ := ob_eq.1 h
      refine ⟨?_, fn0, b, hf0, hb⟩
      refine calls_of_wp hf0 hb (wp_mono (Goes.wp (hcode fn0.ntmps b ι base _ s w _ lx (FR.start ha fn0.ntmps) hg r h1)) ?_)
      rintro x a' w' ⟨⟨e, fr', s2⟩, hmem, hx, hd, κ, he, hf'⟩
      obtain ⟨out, hout, h3⟩ := optL_mem h2 _ hmem
      simp only at h3 hx he hf'
      rw [cnd_eq] at h3
      split at h3
      · cases h3
      rename_i hex
      obtain ⟨vs, hl, h4⟩ := om_eq.1 h3
      subst h4
      obtain ⟨m, hm, hlr⟩ := res_ok (P := P) hf' he.rel fn0.results.toList rs vs hrs hl
      have hres : (results fn0 a'.tmps).run P w' = .ok (if h : (⟨m⟩ : Array Value).size = 1 then (⟨m⟩ : Array Value)[0] else .tuple ⟨m⟩) w' := by
        rw [results_eq, Sem.run_bind, Array.mapM_eq_mapM_toList, Sem.run_map, hm]
        rfl
      have fin : a'.defers = [] ∧ ∃ v', (results fn0 a'.tmps).run P w' = .ok v' w' ∧ ∃ out ∈ l, ∃ κ, Ext none_ ι base s w κ out.2 w' ∧ VR κ out.1 v' := ⟨hd, _, hres, _, hout, κ, he, tupled_ok hlr⟩
      cases e with
      | normal => cases x <;> first | exact fin | exact hx.elim
      | ret => cases x <;> first | exact fin | exact hx.elim
      | exit i => simp [isExit] at hex
    · cases hfn
  · cases hfn

theorem callF_good {n : Nat} (hE : EnvOk P E) (hcode : CodeOk P E n) (hname : Named P) : GoodCallL P (callF E (runC E n)) := by
  intro ι base s w f args args' l hg r ha h
  unfold callF at h
  cases hp : E.prim f with
  | some p =>
    rw [hp] at h
    obtain ⟨⟨v, s'⟩, h1, h2⟩ := om_eq.1 (show om (p args s) (fun r => [r]) = some l from h)
    subst h2
    exact (hE.prim f p hp ι base s w args args' v s' hg r ha h1).mono fun v' w' ⟨κ, e1, e2⟩ => ⟨(v, s'), by simp, κ, e1, e2⟩
  | none =>
    rw [hp] at h
    have h : callC E (runC E n) f args s = some l := h
    obtain ⟨fn, hfn, h⟩ := ob_eq.1 h
    obtain ⟨l0, h0, h⟩ := ob_eq.1 h
    cases h
    obtain ⟨h1, fn0, b, h2, h3⟩ := body_goes hcode (hE.code f fn hfn) hg r ha h0
    refine .inr ⟨?_, ?_⟩
    · have hn := hname f fn0 h2 (by rw [h3]; rfl)
      simp [callFunc, program, Sem.run, h2, hn, h3, Result.andThen]
    · refine h1.mono fun e w' he => ?_
      cases e with
      | returned v =>
        obtain ⟨out, hm, κ, e1, e2⟩ := he
        exact merge_ok hm e1 e2
      | _ => exact he.elim

theorem rRegion_cases (P : Program) (nt : Nat) (ops : Array Oper) (draw : Bool) : (∃ news cs, rRegion P nt ops draw = .region news cs) ∨ (draw = false ∧ ∃ news cs, rRegion P nt ops draw = .many news cs) ∨ rRegion P nt ops draw = .no := by
  unfold rRegion
  split
  · simp only
    split
    · split
      · exact .inl ⟨_, _, rfl⟩
      · exact .inr (.inr rfl)
    · rename_i hd
      split
      · exact .inr (.inl ⟨by simpa using hd, _, _, rfl⟩)
      · exact .inl ⟨_, _, rfl⟩
  · exact .inr (.inr rfl)
theorem Post.trans {nt : Nat} {ι κ : Inj} {base : Nat} {s s1 s' : St} {w w1 : World} {ds : List Deferred} {e : Ex} {fr' : Fr} {x : Exit} {a' : Act} {w' : World} (h : Ext none_ ι base s w κ s1 w1) (h2 : Post P nt κ base s1 w1 ds e fr' s' x a' w') : Post P nt ι base s w ds e fr' s' x a' w' := by
  obtain ⟨h3, h4, μ, h5, h6⟩ := h2
  exact ⟨h3, h4, μ, h.trans h5, h6⟩
theorem PostL.trans {nt : Nat} {ι κ : Inj} {base : Nat} {s s1 : St} {w w1 : World} {ds : List Deferred} {l l' : List (Ex × Fr × St)} {x : Exit} {a' : Act} {w' : World} (h : Ext none_ ι base s w κ s1 w1) (hl : ∀ y ∈ l, y ∈ l') (h2 : PostL P nt κ base s1 w1 ds l x a' w') : PostL P nt ι base s w ds l' x a' w' := by
  obtain ⟨out, hm, h3⟩ := h2
  exact ⟨out, hl _ hm, Post.trans h h3⟩

theorem code_ok (hE : EnvOk P E) (hdraw : DrawGood P) (hmap : MapGood P) (hname : Named P) : ∀ n, CodeOk P E n := by
  intro n
  induction n with
  | zero => intro nt c ι base fr s w a l hf hg r h; cases h
  | succ n ih =>
    have hcall := callF_good hE ih hname
    intro nt c
    induction c with
    | skip =>
      intro ι base fr s w a l hf hg r h
      cases h
      exact wp_skip (PostL.one ⟨trivial, rfl, ι, Ext.refl r, hf⟩)
    | label lb =>
      intro ι base fr s w a l hf hg r h
      cases h
      exact wp_label (PostL.one ⟨trivial, rfl, ι, Ext.refl r, hf⟩)
    | region rid ops draw =>
      intro ι base fr s w a l hf hg r h
      have h : (stepC (rRegion P nt ops draw)).run E (runC E n) fr s = some l := h
      rcases rRegion_cases P nt ops draw with ⟨news, cs, hr⟩ | ⟨rfl, news, cs, hr⟩ | hr
      · rw [hr] at h
        obtain ⟨⟨f1, s1⟩, h1, h2⟩ := om_eq.1 (show om (runOps (one1 (callF E (runC E n))) noRound s.next cs fr (s.skip news)) (fun r => [(Ex.normal, r.1, r.2)]) = some l from h)
        subst h2
        cases draw with
        | false => exact region_ok hcall.one noRound_no hr hf hg r h1 fun κ a' w' e1 e2 e3 => PostL.one ⟨trivial, e3, κ, e1, e2⟩
        | true => exact hdraw nt ops rid _ _ hcall.one noRound_no news cs hr ι base fr f1 s s1 w a _ hf hg r h1 fun κ a' w' e1 e2 e3 => PostL.one ⟨trivial, e3, κ, e1, e2⟩
      · rw [hr] at h
        obtain ⟨l0, h1, h2⟩ := om_eq.1 (show om (runOpsL (callF E (runC E n)) noRoundL s.next cs fr (s.skip news)) (fun l => mapL (fun r => (Ex.normal, r.1, r.2)) l) = some l from h)
        subst h2
        exact region_okL hcall hr hf hg r h1 fun out hout κ a' w' e1 e2 e3 => ⟨(.normal, out.1, out.2), by rw [mapL_eq]; exact List.mem_map.2 ⟨out, hout, rfl⟩, trivial, e3, κ, e1, e2⟩
      · rw [hr] at h; cases h
    | seq x y ihx ihy =>
      intro ι base fr s w a l hf hg r h
      have h : runC E (n + 1) ((rMap P nt x y (rCode P nt y)).getD (.seq (rCode P nt x) (rCode P nt y))) fr s = some l := h
      cases hm : rMap P nt x y (rCode P nt y) with
      | some c =>
        rw [hm] at h
        exact hmap E n ih hcall nt x y c hm ι base fr s w a l hf hg r h
      | none =>
        rw [hm] at h
        obtain ⟨lx, h1, h2⟩ := ob_eq.1 (show kSeq (runC E n) (rCode P nt y) (runC E n (rCode P nt x) fr s) = some l from h)
        refine wp_seq (wp_mono (Goes.wp (ih nt x ι base fr s w a lx hf hg r h1)) ?_)
        rintro x1 a1 w1 ⟨⟨e1, f1, s1⟩, hmem, g1, g2, κ, g3, g4⟩
        obtain ⟨lo, h3, h4⟩ := bindL_eq h2 _ hmem
        simp only at h3 g1 g3 g4
        rw [cnd_eq] at h3
        cases e1 with
        | normal =>
          cases x1 <;> first | exact g1.elim | skip
          rw [if_pos (show isNormal Ex.normal = true from rfl)] at h3
          have := Goes.wp (ih nt y κ base f1 s1 w1 a1 lo g4 (hg.mono g3.le) g3.rel h3)
          exact wp_mono this fun x2 a2 w2 hp => PostL.trans g3 h4 (g2 ▸ hp)
        | exit i =>
          rw [if_neg (by simp [isNormal])] at h3
          cases h3
          cases x1 <;> first | (simp only [exR] at g1; done) | exact g1.elim | exact ⟨(.exit i, f1, s1), h4 _ (List.mem_singleton.2 rfl), g1, g2, κ, g3, g4⟩
        | ret =>
          rw [if_neg (by simp [isNormal])] at h3
          cases h3
          cases x1 <;> first | exact g1.elim | exact ⟨(.ret, f1, s1), h4 _ (List.mem_singleton.2 rfl), g1, g2, κ, g3, g4⟩
    | cond c x y ihx ihy =>
      intro ι base fr s w a l hf hg r h
      have h : runC E (n + 1) (if plainX P c then .cond (rArg c) (rCode P nt x) (rCode P nt y) else .no) fr s = some l := h
      split at h
      · rename_i hp
        obtain ⟨b, hb, h⟩ := ob_eq.1 (show ob (asBool ((rArg c).ev fr)) (fun t => cnd t (runC E n (rCode P nt x) fr s) (runC E n (rCode P nt y) fr s)) = some l from h)
        have hv := arg_ok hf hg hp
        rw [asBool_eq hb] at hv
        refine wp_cond hv.boolE ?_
        cases b with
        | true => exact Goes.wp (ih nt x ι base fr s w a l hf hg r h)
        | false => exact Goes.wp (ih nt y ι base fr s w a l hf hg r h)
      · cases h
    | block id b ihb =>
      intro ι base fr s w a l hf hg r h
      obtain ⟨l0, h1, h2⟩ := om_eq.1 (show kBlock id (runC E n (rCode P nt b) fr s) = some l from h)
      subst h2
      refine wp_block (wp_mono (Goes.wp (ih nt b ι base fr s w a l0 hf hg r h1)) ?_)
      rintro x1 a1 w1 ⟨⟨e1, f1, s1⟩, hmem, g1, g2, κ, g3, g4⟩
      have hm2 : blockEx id (e1, f1, s1) ∈ mapL (blockEx id) l0 := by rw [mapL_eq]; exact List.mem_map.2 ⟨_, hmem, rfl⟩
      simp only at g1 g3 g4
      cases e1 with
      | normal => cases x1 <;> first | exact g1.elim | exact ⟨_, hm2, g1, g2, κ, g3, g4⟩
      | ret => cases x1 <;> first | exact g1.elim | exact ⟨_, hm2, g1, g2, κ, g3, g4⟩
      | exit i =>
        cases x1 with
        | exit j =>
          have g1 : i = j := g1
          subst g1
          change (if i = id then _ else _)
          have hbe : blockEx id (Ex.exit i, f1, s1) = if i = id then (Ex.normal, f1, s1) else (Ex.exit i, f1, s1) := by
            show cnd (Nat.beq id i) (Ex.normal, f1, s1) (Ex.exit i, f1, s1) = _
            rw [cnd_eq]
            by_cases hi : i = id
            · subst hi; simp
            · rw [if_neg hi, if_neg (by rw [Nat.beq_eq]; exact fun e => hi e.symm)]
          rw [hbe] at hm2
          split
          · rename_i hi
            rw [if_pos hi] at hm2
            exact ⟨_, hm2, trivial, g2, κ, g3, g4⟩
          · rename_i hi
            rw [if_neg hi] at hm2
            exact ⟨_, hm2, rfl, g2, κ, g3, g4⟩
        | _ => exact g1.elim
    | loop b ihb =>
      intro ι base fr s w a l hf hg r h
      obtain ⟨lx, h1, h2⟩ := ob_eq.1 (show kSeq (runC E n) (.loop (rCode P nt b)) (runC E n (rCode P nt b) fr s) = some l from h)
      refine loopWp_round (wp_mono (Goes.wp (ih nt b ι base fr s w a lx hf hg r h1)) ?_)
      rintro x1 a1 w1 ⟨⟨e1, f1, s1⟩, hmem, g1, g2, κ, g3, g4⟩
      obtain ⟨lo, h3, h4⟩ := bindL_eq h2 _ hmem
      simp only at h3 g1 g3 g4
      rw [cnd_eq] at h3
      cases e1 with
      | normal =>
        cases x1 <;> first | exact g1.elim | skip
        rw [if_pos (show isNormal Ex.normal = true from rfl)] at h3
        have hl : LoopWp P b (PostL P nt κ base s1 w1 a1.defers lo) a1 w1 := ih nt (.loop b) κ base f1 s1 w1 a1 lo g4 (hg.mono g3.le) g3.rel h3
        intro bb k cs
        obtain ⟨e2, a2, w2, hq, harr⟩ := hl bb k cs
        exact ⟨e2, a2, w2, PostL.trans g3 h4 (g2 ▸ hq), harr⟩
      | exit i =>
        rw [if_neg (by simp [isNormal])] at h3
        cases h3
        cases x1 <;> first | exact g1.elim | exact ⟨(.exit i, f1, s1), h4 _ (List.mem_singleton.2 rfl), g1, g2, κ, g3, g4⟩
      | ret =>
        rw [if_neg (by simp [isNormal])] at h3
        cases h3
        cases x1 <;> first | exact g1.elim | exact ⟨(.ret, f1, s1), h4 _ (List.mem_singleton.2 rfl), g1, g2, κ, g3, g4⟩
    | exit id =>
      intro ι base fr s w a l hf hg r h
      cases h
      exact wp_exit (PostL.one ⟨rfl, rfl, ι, Ext.refl r, hf⟩)
    | ret =>
      intro ι base fr s w a l hf hg r h
      cases h
      exact wp_ret (PostL.one ⟨trivial, rfl, ι, Ext.refl r, hf⟩)
    | scope b ihb =>
      intro ι base fr s w a l hf hg r h
      refine wp_scope_straight (wp_mono (Goes.wp (ihb ι base fr s w a l hf hg r h)) ?_)
      intro x1 a1 w1 hp
      cases x1 with
      | goto lb =>
        obtain ⟨⟨e, _, _⟩, _, hx, _⟩ := hp
        cases e <;> exact hx.elim
      | _ => exact hp
    | _ => intro ι base fr s w a l hf hg r h; cases h
end
end Go.Ev
