/-
  Aggregates that are built; least and greatest; bytes that become a text.
-/
import Derived.Test.YticaodbgdjjgdaaGreatDoorEvMisc
set_option linter.unusedVariables false
set_option linter.unusedSimpArgs false
namespace Go.Ev
open Go (Sem)
section
variable {P : Program} {ι : Inj} {w : World} {base : Nat} {s : St} {o : Oper} {ρ : Operand → Value}

theorem foldl_set (off : Nat) : ∀ (vs : List Value) (k : Nat) (cs : Array Value), off + k + vs.length ≤ cs.size →
    ((vs.zipIdx k).foldl (fun (cs : Array Value) (p : Value × Nat) => cs.setIfInBounds (off + p.2) p.1) cs).size = cs.size ∧
    ∀ i : Nat, ((vs.zipIdx k).foldl (fun (cs : Array Value) (p : Value × Nat) => cs.setIfInBounds (off + p.2) p.1) cs)[i]? = if off + k ≤ i ∧ i < off + k + vs.length then vs[i - (off + k)]? else cs[i]? := by
  intro vs
  induction vs with
  | nil => intro k cs h; refine ⟨rfl, fun i => ?_⟩; rw [if_neg (by simp only [List.length_nil]; omega)]; rfl
  | cons v vs ih =>
    intro k cs h
    simp only [List.length_cons] at h
    simp only [List.zipIdx_cons, List.foldl_cons]
    obtain ⟨h1, h2⟩ := ih (k + 1) (cs.setIfInBounds (off + k) v) (by simp; omega)
    refine ⟨by rw [h1]; simp, fun i => ?_⟩
    rw [h2, Array.getElem?_setIfInBounds]
    by_cases hi : off + k = i
    · rw [if_neg (by omega), if_pos hi, if_pos (by omega), if_pos (by simp; omega)]
      rw [show i - (off + k) = 0 by omega]; rfl
    · rw [if_neg hi]
      by_cases hj : off + (k + 1) ≤ i ∧ i < off + (k + 1) + vs.length
      · rw [if_pos hj, if_pos (by simp; omega)]
        rw [show i - (off + k) = (i - (off + (k + 1))) + 1 by omega]; rfl
      · rw [if_neg hj, if_neg (by simp; omega)]
theorem fold_splice {zs : List Value} {vs : Array Value} {off : Nat} (h : off + vs.size ≤ zs.length) :
    vs.zipIdx.foldl (fun (cs : Array Value) (p : Value × Nat) => cs.setIfInBounds (off + p.2) p.1) ⟨zs⟩ = ⟨splice zs off vs.toList⟩ := by
  have e : vs.zipIdx.foldl (fun (cs : Array Value) (p : Value × Nat) => cs.setIfInBounds (off + p.2) p.1) ⟨zs⟩ = (vs.toList.zipIdx 0).foldl (fun (cs : Array Value) (p : Value × Nat) => cs.setIfInBounds (off + p.2) p.1) ⟨zs⟩ := by
    rw [← Array.foldl_toList, Array.toList_zipIdx]
  rw [e]
  obtain ⟨h1, h2⟩ := foldl_set off vs.toList 0 ⟨zs⟩ (by simpa using h)
  apply Array.ext_getElem?
  intro i
  rw [h2]
  have := splice_get zs off vs.toList (by simpa using h) i
  have e3 : ∀ L : List Value, (⟨L⟩ : Array Value)[i]? = L[i]? := fun L => (Array.getElem?_toList (xs := (⟨L⟩ : Array Value))).symm
  rw [e3, e3, this]
  simp only [Nat.add_zero]

/-- Parts and their places. -/
inductive PR (place : Nat → Option (Nat × Nat)) : List (Nat × Operand) → List (Nat × Nat × Arg) → Prop
  | nil : PR place [] []
  | cons {i off n : Nat} {x : Operand} {ps : List (Nat × Operand)} {qs : List (Nat × Nat × Arg)} (h : place i = some (off, n)) (t : PR place ps qs) : PR place ((i, x) :: ps) ((off, n, rArg x) :: qs)

theorem VR.cells_size {v v' : Value} (h : VR ι v v') (hs : storable v = true) : v'.cells.size = (Ev.vcells v).length := by
  have := (h.vcells hs).1.length
  rw [this]; rfl

theorem fill_ok {fr : Fr} {place : Nat → Option (Nat × Nat)} {ps : List (Nat × Operand)} {qs : List (Nat × Nat × Arg)} (hp : PR place ps qs) : ∀ {zs zs' l : List Value}, LR ι zs zs' → (∀ x ∈ zs, scal x) →
    (∀ p ∈ ps, VR ι ((rArg p.2).ev fr) (ρ p.2)) → fillL (evP fr qs) zs = some l →
    ∃ l', Instr.fill place ⟨zs'⟩ (ps.map fun p => (p.1, ρ p.2)) = some ⟨l'⟩ ∧ LR ι l l' ∧ (∀ x ∈ l, scal x) ∧ l.length = zs.length := by
  induction hp with
  | nil =>
    intro zs zs' l hz hs _ h
    cases h
    exact ⟨zs', rfl, hz, hs, rfl⟩
  | @cons i off n x ps qs h0 t ih =>
    intro zs zs' l hz hs hv h
    have hx := hv (i, x) (by simp)
    change (must (storable ((rArg x).ev fr)) (must (Nat.beq (lenL (vcells ((rArg x).ev fr))) n) (must (Nat.ble (off + n) (lenL zs)) (fillL (evP fr qs) (splice zs off (vcells ((rArg x).ev fr))))))) = some l at h
    obtain ⟨h1, h⟩ := must_eq.1 h
    obtain ⟨h2, h⟩ := must_eq.1 h
    obtain ⟨h3, h⟩ := must_eq.1 h
    rw [Nat.beq_eq, lenL_eq] at h2
    rw [Nat.ble_eq, lenL_eq] at h3
    obtain ⟨g1, g2⟩ := hx.vcells h1
    have hsz := hx.cells_size h1
    have hl := hz.length
    have hsp : LR ι (splice zs off (vcells ((rArg x).ev fr))) (splice zs' off (vcells (ρ x))) := by
      rw [splice_eq, splice_eq]
      have := g1.length
      rw [← this]
      exact ((hz.take _).append g1).append (hz.drop _)
    have hlen : (splice zs off (vcells ((rArg x).ev fr))).length = zs.length := splice_length _ _ _ (by omega)
    obtain ⟨l', f1, f2, f3, f4⟩ := ih hsp (by
      intro y hy
      rw [splice_eq] at hy
      rcases List.mem_append.1 hy with hy | hy
      · rcases List.mem_append.1 hy with hy | hy
        · exact hs y (List.mem_of_mem_take hy)
        · exact g2 y hy
      · exact hs y (List.mem_of_mem_drop hy)) (fun p hp => hv p (by simp [hp])) h
    refine ⟨l', ?_, f2, f3, by rw [f4, hlen]⟩
    simp only [List.map_cons, Instr.fill, h0]
    have c1 : ¬ ((ρ x).cells.size ≠ n ∨ off + (ρ x).cells.size > (⟨zs'⟩ : Array Value).size) := by
      rw [hsz, h2]
      have : (⟨zs'⟩ : Array Value).size = zs'.length := rfl
      rw [this]; omega
    have c2 : ((ρ x).cells.size ≠ n || off + (ρ x).cells.size > (⟨zs'⟩ : Array Value).size) = false := by
      rw [Bool.eq_false_iff]; intro hc; apply c1; simpa using hc
    rw [c2]
    simp only [Bool.false_eq_true, if_false]
    rw [fold_splice (by rw [hsz, h2]; omega)]
    exact f1

theorem evP_eq (fr : Fr) (qs : List (Nat × Nat × Arg)) : evP fr qs = qs.map fun p => (p.1, p.2.1, p.2.2.ev fr) := by unfold evP; rw [mapL_eq]

theorem plain_scal {z : Value} (h : plainV z = true) : LR ι z.cells.toList z.cells.toList ∧ ∀ x ∈ z.cells.toList, scal x :=
  ⟨.plain h, fun x hx => plainC_scal (List.all_eq_true.1 h x hx)⟩

theorem fill_none {place : Nat → Option (Nat × Nat)} : True := trivial

theorem q_buildStruct {fr : Fr} {T : TypeId} {ps : Array (Nat × Operand)} (ho : o.op = .build T ps) {fs : Array Field} (hT : P.underlying T = some (.struct fs)) {z : Value} (hz : zeroOf P T = some z) {qs : List (Nat × Nat × Arg)}
    (hsz : ∀ f : Field, f ∈ fs.toList → ∃ n, sizeOf? P f.type = some n)
    (hp : PR (fun i => (fs[i]?).bind fun f => (sizeOf? P f.type).map fun n => (f.offset, n)) ps.toList qs) (hv : ∀ p ∈ ps.toList, VR ι ((rArg p.2).ev fr) (ρ p.2)) {l : List Value} (h : fillL (evP fr qs) z.cells.toList = some l) :
    Ok P ι w (execOp ρ o) (.agg ⟨l⟩) := by
  obtain ⟨hz1, hz2⟩ := run_zeroValue (w := w) hz
  obtain ⟨g1, g2⟩ := plain_scal (ι := ι) hz2
  obtain ⟨l', f1, f2, f3, _⟩ := fill_ok hp g1 g2 hv h
  refine ⟨.agg ⟨l'⟩, ?_, .aggI f3 f2⟩
  simp only [execOp, ho]
  refine run_v ?_
  have hmap : ∀ (l : List Field), (∀ f ∈ l, ∃ n, sizeOf? P f.type = some n) → (l.mapM (fun f => do pure (f.offset, ← sizeOf f.type) : Field → Sem (Nat × Nat))).run P w = .ok (l.map fun f => (f.offset, (sizeOf? P f.type).getD 0)) w := by
    intro l
    induction l with
    | nil => intro _; rfl
    | cons f l ih =>
      intro hl
      obtain ⟨n, hn⟩ := hl f (by simp)
      have hstep : (do pure (f.offset, ← sizeOf f.type) : Sem (Nat × Nat)).run P w = .ok (f.offset, n) w := by rw [Sem.run_bind, run_sizeOf hn]; rfl
      rw [List.mapM_cons, Sem.run_bind, hstep]
      simp only [Result.andThen]
      rw [Sem.run_bind, ih (fun g hg => hl g (by simp [hg]))]
      simp [Result.andThen, hn]
  have hmapA : (fs.mapM (fun f => do pure (f.offset, ← sizeOf f.type) : Field → Sem (Nat × Nat))).run P w = .ok ⟨fs.toList.map fun f => (f.offset, (sizeOf? P f.type).getD 0)⟩ w := by
    rw [Array.mapM_eq_mapM_toList, Sem.run_map, hmap fs.toList hsz]
    rfl
  have hplace : (fun i : Nat => (⟨fs.toList.map fun f => (f.offset, (sizeOf? P f.type).getD 0)⟩ : Array (Nat × Nat))[i]?) = fun i : Nat => (fs[i]?).bind fun f => (sizeOf? P f.type).map fun n => (f.offset, n) := by
    funext i
    have e3 : ∀ L : List (Nat × Nat), (⟨L⟩ : Array (Nat × Nat))[i]? = L[i]? := fun L => (Array.getElem?_toList (xs := (⟨L⟩ : Array (Nat × Nat)))).symm
    rw [e3, List.getElem?_map, Array.getElem?_toList]
    cases e : fs[i]? with
    | none => rfl
    | some f =>
      obtain ⟨n, hn⟩ := hsz f (by rw [Array.mem_toList_iff]; exact Array.mem_of_getElem? e)
      simp [hn]
  have hps : (ps.map fun p => (p.1, ρ p.2)).toList = ps.toList.map fun p => (p.1, ρ p.2) := by simp
  have hf : Instr.fill (fun i : Nat => (⟨fs.toList.map fun f => (f.offset, (sizeOf? P f.type).getD 0)⟩ : Array (Nat × Nat))[i]?) z.cells (ps.map fun p => (p.1, ρ p.2)).toList = some ⟨l'⟩ := by
    rw [hplace, hps]; exact f1
  show (Instr.build T (ps.map fun p => (p.1, ρ p.2))).run P w = _
  simp only [Instr.build, Sem.run_bind, hz1, Result.andThen, run_underlying hT, hmapA]
  rw [hf]
  rfl
theorem q_buildArray {fr : Fr} {T E : TypeId} {len n : Nat} {ps : Array (Nat × Operand)} (ho : o.op = .build T ps) (hT : P.underlying T = some (.array len E)) (hE : sizeOf? P E = some n) {z : Value} (hz : zeroOf P T = some z) {qs : List (Nat × Nat × Arg)}
    (hp : PR (fun i => some (i * n, n)) ps.toList qs) (hv : ∀ p ∈ ps.toList, VR ι ((rArg p.2).ev fr) (ρ p.2)) {l : List Value} (h : fillL (evP fr qs) z.cells.toList = some l) :
    Ok P ι w (execOp ρ o) (.agg ⟨l⟩) := by
  obtain ⟨hz1, hz2⟩ := run_zeroValue (w := w) hz
  obtain ⟨g1, g2⟩ := plain_scal (ι := ι) hz2
  obtain ⟨l', f1, f2, f3, _⟩ := fill_ok hp g1 g2 hv h
  refine ⟨.agg ⟨l'⟩, ?_, .aggI f3 f2⟩
  simp only [execOp, ho]
  refine run_v ?_
  have hps : (ps.map fun p => (p.1, ρ p.2)).toList = ps.toList.map fun p => (p.1, ρ p.2) := by simp
  show (Instr.build T (ps.map fun p => (p.1, ρ p.2))).run P w = _
  simp only [Instr.build, Sem.run_bind, hz1, Result.andThen, run_underlying hT, run_sizeOf hE]
  have hf : Instr.fill (fun i => some (i * n, n)) z.cells (ps.map fun p => (p.1, ρ p.2)).toList = some ⟨l'⟩ := by rw [hps]; exact f1
  rw [hf]
  rfl

theorem minmax_ok {mx : Bool} : ∀ (xs ys : List Value), LR ι xs ys → ∀ {x y v : Value}, VR ι x y → minmaxL mx xs x = some v →
    (ys.foldlM (cnd mx Builtin.max2 Builtin.min2) y : Sem Value).run P w = .ok v w ∧ VR ι v v ∨ (xs = [] ∧ v = x) := by
  intro xs ys h
  induction h with
  | nil => intro x y v hx hv; cases hv; exact .inr ⟨rfl, rfl⟩
  | @cons a b l m hab ht ih =>
    intro x y v hx hv
    left
    change (ob (asInt x) fun p => ob (asInt a) fun q => must (kEq p.1 q.1) (minmaxL mx l (.int p.1 (less mx p.2 q.2)))) = some v at hv
    obtain ⟨p, hp, hv⟩ := ob_eq.1 hv
    obtain ⟨q, hq, hv⟩ := ob_eq.1 hv
    obtain ⟨hk, hv⟩ := must_eq.1 hv
    rw [asInt_eq hp] at hx; rw [asInt_eq hq] at hab
    rw [hx.intE, hab.intE]
    rw [kEq_eq] at hk
    have hk : p.1 = q.1 := by simpa using hk
    have hstep : (cnd mx Builtin.max2 Builtin.min2 (.int p.1 p.2) (.int q.1 q.2)).run P w = .ok (.int p.1 (less mx p.2 q.2)) w := by
      cases mx
      · show (Builtin.min2 (.int p.1 p.2) (.int q.1 q.2)).run P w = _
        unfold less
        rw [cnd_false, cnd_eq, iLt_eq]
        simp only [Builtin.min2, Sem.run_pure, decide_eq_true_eq]
      · show (Builtin.max2 (.int p.1 p.2) (.int q.1 q.2)).run P w = _
        unfold less
        rw [cnd_true, cnd_eq, iLt_eq]
        simp only [Builtin.max2, Sem.run_pure, decide_eq_true_eq]
    rw [List.foldlM_cons, Sem.run_bind, hstep]
    simp only [Result.andThen]
    rcases ih (.int _ _) hv with h | ⟨rfl, rfl⟩
    · exact h
    · cases ht; exact ⟨rfl, .int _ _⟩
theorem q_minmax {c : Call} {mx : Bool} (ho : o.op = .call c) (hc : c.callee = .builtin (cnd mx .max .min)) {xs : List Value} (hx : LR ι xs (c.args.toList.map ρ)) {x : Value} {r : List Value} (he : xs = x :: r) {v : Value} (h : minmaxL mx r x = some v) :
    Ok P ι w (execOp ρ o) v := by
  subst he
  have e : (c.args.map ρ).toList = c.args.toList.map ρ := by simp
  cases hm : c.args.toList.map ρ with
  | nil => rw [hm] at hx; cases hx
  | cons y ys =>
    rw [hm] at hx
    cases hx with
    | cons h0 ht =>
      have key : ∃ v', (ys.foldlM (cnd mx Builtin.max2 Builtin.min2) y : Sem Value).run P w = .ok v' w ∧ VR ι v v' := by
        rcases minmax_ok (P := P) (w := w) r ys ht h0 h with ⟨h1, h2⟩ | ⟨rfl, rfl⟩
        · exact ⟨v, h1, h2⟩
        · cases ht; exact ⟨y, rfl, h0⟩
      obtain ⟨v', h1, h2⟩ := key
      refine ⟨v', ?_, h2⟩
      cases mx
      · refine run_call_len ho hc (m := Builtin.min_ c.argTypes o.type (c.args.map ρ)) (fun _ => rfl) ?_
        unfold Builtin.min_
        rw [e, hm]; exact h1
      · refine run_call_len ho hc (m := Builtin.max_ c.argTypes o.type (c.args.map ρ)) (fun _ => rfl) ?_
        unfold Builtin.max_
        rw [e, hm]; exact h1
end
end Go.Ev
