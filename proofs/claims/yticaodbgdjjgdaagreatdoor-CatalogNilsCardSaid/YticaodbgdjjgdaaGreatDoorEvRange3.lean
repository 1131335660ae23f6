/-
  The rounds of a loop over a map: each does what the machine does.
-/
import Derived.Test.YticaodbgdjjgdaaGreatDoorEvRange2
set_option linter.unusedVariables false
set_option linter.unusedSimpArgs false
namespace Go.Ev
open Go (Sem)

/-- What is fixed through a loop. -/
structure Loop (P : Program) (E : Env) (n nt : Nat) where
  ops1 : Array Oper
  ops2 : Array Oper
  body : Code
  r1 : Nat
  r2 : Nat
  tr : Nat
  tn : Nat
  tk : Nat
  te : Nat
  bid : Nat
  b2 : Nat
  pre2 : List COper
  n1 : Oper
  n2 : Oper
  e1 : Oper
  ty : TypeId
  hops1 : ops1.toList = [n1, n2]
  hn1 : n1.op = .next (.tmp tr) false ∧ n1.guard = none ∧ n1.dst = some tn
  hn2 : n2.op = .extract (.tmp tn) 0 ∧ n2.guard = none ∧ n2.dst = some tk
  he1 : ops2[0]? = some e1 ∧ e1.op = .entry (.tmp tr) ∧ e1.guard = none ∧ e1.dst = some te
  hpre2 : (ops2.toList.zipIdx.drop 1).mapM (fun (o, i) => rOper P nt ops2 o i) = some pre2
  ltr : tr < nt
  ltn : tn < nt
  ltk : tk < nt
  lte : te < nt
  ntr : tn ≠ tr
  ktr : tk ≠ tr
  kn : True

def Loop.code {P : Program} {E : Env} {n nt : Nat} (L : Loop P E n nt) : Code :=
  .seq (.region L.r1 L.ops1 false) (.seq (.cond (.tmp L.tk) .skip (.exit L.bid)) (.block L.b2 (.seq (.region L.r2 L.ops2 false) L.body)))
noncomputable def Loop.go {P : Program} {E : Env} {n nt : Nat} (L : Loop P E n nt) : Value × Value → Fr → St → RCL := fun e fr s =>
  ob (runOps (one1 (callF E (runC E n))) noRound s.next L.pre2 (fr.set L.te (.tuple ⟨[e.1, e.2]⟩)) (s.skip (newsOf L.ops2.size L.pre2))) fun r => kBlock L.b2 (runC E n (rCode P nt L.body) r.1 r.2)

section
variable {P : Program} {E : Env} {n nt : Nat}

theorem holds_eq {κ : Inj} {fr : Fr} {tr it : Nat} {tmps : Array Value} (h : holds fr tr it = true) (hf : FR κ fr nt tmps) {B : Blk} (hB : κ it = some B) (hsh : B.sh = 0) : tmps.getD tr Go.undef = .pointer (some ⟨B.b, 0, none⟩) := by
  unfold holds at h
  cases e : asAddr (orUndef (fr.get tr)) with
  | none => rw [e] at h; cases h
  | some ad =>
    rw [e] at h
    have h : addrEq ad ⟨it, 0, none⟩ = true := h
    have h2 := addrEq_eq h
    have hv := hf.val tr
    rw [asAddr_eq e, h2] at hv
    obtain ⟨a', e1, B', e2, _, e3⟩ := hv.ptrE
    rw [hB] at e2; cases e2
    rw [e1, e3, hsh]; rfl

/-- What holds where the loop is left. -/
def PostM (P : Program) (nt : Nat) (κ0 : Inj) (base : Nat) (sH : St) (wH : World) (ds : List Deferred) (bid : Nat) (l : List (Ex × Fr × St)) : Exit → Act → World → Prop := fun x a' w' =>
  ∃ out ∈ l, exB bid out.1 x ∧ a'.defers = ds ∧ ∃ μ, Ext none_ κ0 base sH wH μ out.2.2 w' ∧ FR μ out.2.1 nt a'.tmps

/-- A region's operations from the second one on, behind which code stands. -/
theorem rest_ok {call : CallerL} (hcall : GoodCallL P call) {ops : Array Oper} {pre : List COper} (hpre : (ops.toList.zipIdx.drop 1).mapM (fun (o, i) => rOper P nt ops o i) = some pre) (hsz : 0 < ops.size) {Q : Exit → Act → World → Prop} {κ : Inj} {base : Nat} {fr fr' : Fr} {s s' : St} {w : World} {a : Act}
    (hf : FR κ fr nt a.tmps) (hg : Globs P κ) (r : Rel κ base s w) (h : runOps (one1 call) noRound s.next pre fr (s.skip (newsOf ops.size pre)) = some (fr', s'))
    (hQ : ∀ μ a' w', Ext none_ κ base s w μ s' w' → FR μ fr' nt a'.tmps → a'.defers = a.defers → Q .normal a' w') : wpOps P ops Q (List.range' 1 (ops.size - 1)) a w := by
  have hlist : ops.toList.zipIdx.drop 1 = (ops.toList.drop 1).zipIdx 1 := by
    cases ops.toList <;> rfl
  rw [hlist] at hpre
  have hix : ∀ c ∈ pre, c.ix < ops.size := by
    intro c hc
    have key : ∀ (xs : List (Oper × Nat)) (ys : List COper), xs.mapM (fun (o, i) => rOper P nt ops o i) = some ys → ∀ c ∈ ys, ∃ x ∈ xs, c.ix = x.2 := by
      intro xs
      induction xs with
      | nil => intro ys h; simp at h; subst h; simp
      | cons x xs ih =>
        intro ys h
        rw [List.mapM_cons] at h
        obtain ⟨y, hy, h⟩ := Option.bind_eq_some_iff.1 h
        obtain ⟨ys2, hys, h⟩ := Option.bind_eq_some_iff.1 h
        cases h
        intro c hc
        rcases List.mem_cons.1 hc with rfl | hc
        · obtain ⟨_, _, e, _⟩ := rOper_eq hy
          exact ⟨x, by simp, by rw [e]⟩
        · obtain ⟨x2, hx2, e⟩ := ih ys2 hys c hc
          exact ⟨x2, by simp [hx2], e⟩
    obtain ⟨x, hx, e⟩ := key _ _ hpre c hc
    have := List.snd_lt_of_mem_zipIdx hx
    have hl : (ops.toList.drop 1).length = ops.size - 1 := by simp
    omega
  have hl : (ops.toList.drop 1).length = ops.size - 1 := by simp
  have := ops_one (b := s.next) (n := newsOf ops.size pre) (base := base) (ds := a.defers) (Q := Q) (rest := []) hcall (ops.toList.drop 1) 1 (fun j hj => by rw [List.getElem?_drop, Array.getElem?_toList]) pre hpre ?_ κ fr fr' (s.skip (newsOf ops.size pre)) s' w a hf hg
    (by rw [St.skip_eq]; exact (Ext.bump (S := none_) r _).rel) rfl (by rw [St.skip_eq]; simp) ?_ h ?_
  · rw [List.append_nil, hl] at this; exact this
  · intro c hc hcl
    unfold newsOf
    rw [if_pos (List.any_eq_true.2 ⟨c, hc, by rw [hcl]; rfl⟩)]
    have := hix c hc
    omega
  · intro i _ hi
    rw [St.skip_eq]
    have := r.next (s.next + i) (by omega)
    exact ⟨by simpa using this.1, this.2⟩
  · intro μ a' w' e1 e2 e3
    exact hQ μ a' w' e1.skipped e2 e3

theorem rounds_ok (L : Loop P E n nt) (hcode : CodeOk P E n) (hcall : GoodCallL P (callF E (runC E n))) {κ0 : Inj} {base : Nat} {sH : St} {wH : World} {ds : List Deferred} {it bi : Nat} {mo : Side} (hbi : wH.heap.size ≤ bi)
    (hmo : ∀ m es' clk, mo = some (m, es', clk) → m < wH.heap.size ∧ Off κ0 sH m ∧ wH.heap[m]? = some (.map es' clk) ∧ (∀ e ∈ es'.toList, e.born < clk) ∧ (es'.toList.map (·.born)).Nodup) :
    ∀ (N : Nat) (es : List (Value × Value)) (seen : Array Nat) (κ : Inj) (fr : Fr) (s : St) (w : World) (a : Act) (l : List (Ex × Fr × St)), FR κ fr nt a.tmps → Globs P κ → Ext none_ κ0 base sH wH κ s w → Off κ s bi → (∃ B, κ it = some B ∧ B.b = bi ∧ B.sh = 0) →
      Iter w bi mo seen → Left κ mo es seen → a.defers = ds → mapRounds L.tr L.tn L.tk it L.bid L.go N es fr s = some l → LoopWp P L.code (PostM P nt κ0 base sH wH ds L.bid l) a w := by
  intro N
  induction N with
  | zero => intro es seen κ fr s w a l _ _ _ _ _ _ _ _ h; cases h
  | succ N ih =>
    intro es seen κ fr s w a l hf hg e0 hoff hit hiter hleft hds h
    obtain ⟨hh, h1⟩ := must_eq.1 (show must (holds fr L.tr it) (List.casesOn es (some [(.normal, (fr.set L.tn no_).set L.tk (.bool false), s)]) (fun _ _ =>
      bindM (fun p => ob (L.go p.1 ((fr.set L.tn (.tuple ⟨[.bool true, p.1.1, p.1.2]⟩)).set L.tk (.bool true)) s) fun l => bindL l fun x => Ex.rec (mapRounds L.tr L.tn L.tk it L.bid L.go N p.2 x.2.1 x.2.2) (fun j => cnd (Nat.beq L.bid j) (some [(.normal, x.2)]) (some [x])) (some [x]) x.1) (picks es))) = some l from h)
    obtain ⟨B, hB, hBb, hBs⟩ := hit
    have hptr : a.tmps.getD L.tr Go.undef = .pointer (some ⟨bi, 0, none⟩) := by rw [holds_eq hh hf hB hBs, hBb]
    have hblt : bi < w.heap.size := by rw [← hBb]; exact e0.rel.blk it B hB
    have o1 : L.ops1[0]? = some L.n1 := by rw [← Array.getElem?_toList, L.hops1]; rfl
    have o2 : L.ops1[1]? = some L.n2 := by rw [← Array.getElem?_toList, L.hops1]; rfl
    have osz : L.ops1.size = 2 := by rw [← Array.length_toList, L.hops1]; rfl
    obtain ⟨n1a, n1b, n1c⟩ := L.hn1
    obtain ⟨n2a, n2b, n2c⟩ := L.hn2
    -- 'next' and its first part
    have front : ∀ (T T' : Value) (w1 : World) (b : Bool) (l0 l1 : List Value) (Q : Exit → Act → World → Prop), (Instr.next (.pointer (some ⟨bi, 0, none⟩)) false L.n1.type).run P w = .ok T' w1 → T = .tuple ⟨.bool b :: l0⟩ → VR κ T T' →
        (∀ a2, a2.defers = ds → FR κ ((fr.set L.tn T).set L.tk (.bool b)) nt a2.tmps → (Code.seq (.cond (.tmp L.tk) .skip (.exit L.bid)) (.block L.b2 (.seq (.region L.r2 L.ops2 false) L.body))).wp P Q a2 w1) →
        L.code.wp P Q a w := by
      intro T T' w1 b l0 l1 Q hrun hT hv hk
      refine wp_seq (wp_region ?_)
      rw [osz]
      show wpOps P L.ops1 _ [0, 1] a w
      refine ops_step (v := T') (w' := w1) o1 n1b ?_ ?_
      · simp only [execOp, n1a]
        refine run_v ?_
        have : a.eval (.tmp L.tr) = .pointer (some ⟨bi, 0, none⟩) := hptr
        rw [this]; exact hrun
      have hf1 : FR κ (fr.set L.tn T) nt (a.put L.n1.dst T').tmps := by rw [n1c]; exact hf.set L.ltn hv
      have hT1 : VR κ T ((a.put L.n1.dst T').eval (.tmp L.tn)) := by
        have := hf1.val L.tn
        rw [Tr.get_set, if_pos rfl] at this
        exact this
      rw [hT] at hT1
      obtain ⟨v', hv1, hv2⟩ := q_extract (P := P) (w := w1) (ρ := (a.put L.n1.dst T').eval) n2a (l := .bool b :: l0) (i := 0) (v := .bool b) rfl hT1
      refine ops_step (v := v') (w' := w1) o2 n2b hv1 ?_
      have hf2 : FR κ ((fr.set L.tn T).set L.tk (.bool b)) nt ((a.put L.n1.dst T').put L.n2.dst v').tmps := by rw [n2c]; exact hf1.set L.ltk hv2
      exact hk _ (by rw [Act.put_defers', Act.put_defers']; exact hds) hf2
    have cnd2 : ∀ (T : Value) (b : Bool) (a2 : Act) (w1 : World) (Q : Exit → Act → World → Prop), FR κ ((fr.set L.tn T).set L.tk (.bool b)) nt a2.tmps → (if b then (Code.block L.b2 (.seq (.region L.r2 L.ops2 false) L.body)).wp P Q a2 w1 else Q (.exit L.bid) a2 w1) →
        (Code.seq (.cond (.tmp L.tk) .skip (.exit L.bid)) (.block L.b2 (.seq (.region L.r2 L.ops2 false) L.body))).wp P Q a2 w1 := by
      intro T b a2 w1 Q hf2 hq
      have hb : a2.eval (.tmp L.tk) = .bool b := by
        have := hf2.val L.tk
        rw [Tr.get_set, if_pos rfl] at this
        exact this.boolE
      refine wp_seq (wp_cond hb ?_)
      cases b with
      | true => exact wp_skip hq
      | false => exact wp_exit hq
    cases es with
    | nil =>
      -- all is done
      cases h1
      have hrun : (Instr.next (.pointer (some ⟨bi, 0, none⟩)) false L.n1.type).run P w = .ok no_ w := by
        cases mo with
        | none =>
          obtain ⟨since, stepped, sn, hi⟩ := hiter
          exact run_next_over hi _
        | some x =>
          obtain ⟨m, es', clk⟩ := x
          obtain ⟨m1, m2, m3, m4, m5⟩ := hmo m es' clk rfl
          have hm : w.heap[m]? = some (.map es' clk) := by rw [m2.keeps m1 e0]; exact m3
          exact run_next_done hiter hm m4 m4 _ (hleft.none_iff.1 rfl)
      refine loopWp_round (front no_ no_ w false [] [] _ hrun rfl (VR.tupI (.cons (.bool false) .nil)) fun a2 hd2 hf2 => cnd2 no_ false a2 w _ hf2 ?_)
      show PostM P nt κ0 base sH wH ds L.bid _ (.exit L.bid) a2 w
      exact ⟨_, List.mem_singleton.2 rfl, by show (if L.bid = L.bid then _ else _); rw [if_pos rfl], hd2, κ, e0, hf2⟩
    | cons x0 es0 =>
      cases mo with
      | none => cases hleft
      | some side =>
        obtain ⟨m, es', clk⟩ := side
        obtain ⟨m1, m2, m3, m4, m5⟩ := hmo m es' clk rfl
        have hm : w.heap[m]? = some (.map es' clk) := by rw [m2.keeps m1 e0]; exact m3
        have hne : leftOf es' seen ≠ [] := fun hnil => by have := hleft.none_iff.2 hnil; cases this
        obtain ⟨e, d, he, hrun⟩ := run_next_take hiter hm m4 m4 L.n1.type hne
        obtain ⟨x, rr, hpick, hk, hv, hleft2⟩ := hleft.take m5 he
        obtain ⟨lo, g1, g2⟩ := bindM_eq h1 _ hpick
        obtain ⟨lg, g3, g4⟩ := ob_eq.1 g1
        simp only at g3 g4
        generalize hw1 : ({ w with heap := w.heap.setIfInBounds bi (.mapIter (some m) clk (seen.push e.born) clk), drawn := d } : World) = w1 at hrun
        have hw1s : w1.heap.size = w.heap.size := by rw [← hw1]; simp
        have hw1o : ∀ k, k ≠ bi → w1.heap[k]? = w.heap[k]? := by
          intro k hk2; rw [← hw1]; simp only [Array.getElem?_setIfInBounds]; rw [if_neg (fun h => hk2 h.symm)]
        have e1 : Ext none_ κ0 base sH wH κ s w1 := e0.aside hbi hoff hw1s hw1o (by rw [← hw1]) (by rw [← hw1]) (by rw [← hw1])
        have hi1 : w1.heap[bi]? = some (.mapIter (some m) clk (seen.push e.born) clk) := by
          rw [← hw1]; simp only [Array.getElem?_setIfInBounds, if_true, hblt]
        have hmb : m ≠ bi := by omega
        have hm1 : w1.heap[m]? = some (.map es' clk) := by rw [hw1o m hmb]; exact hm
        refine loopWp_round (front (.tuple ⟨[.bool true, x.1, x.2]⟩) _ w1 true [x.1, x.2] [] _ hrun rfl (VR.tupI (.cons (.bool true) (.cons hk (.cons hv .nil)))) fun a2 hd2 hf2 => cnd2 _ true a2 w1 _ hf2 ?_)
        -- the entry, and what is done with it
        obtain ⟨⟨fr3, s3⟩, g5, g6⟩ := ob_eq.1 (show ob (runOps (one1 (callF E (runC E n))) noRound s.next L.pre2 (((fr.set L.tn (.tuple ⟨[.bool true, x.1, x.2]⟩)).set L.tk (.bool true)).set L.te (.tuple ⟨[x.1, x.2]⟩)) (s.skip (newsOf L.ops2.size L.pre2))) (fun r => kBlock L.b2 (runC E n (rCode P nt L.body) r.1 r.2)) = some lg from g3)
        obtain ⟨lb, g7, g8⟩ := om_eq.1 g6
        simp only at g7
        obtain ⟨q1, q2, q3, q4⟩ := L.he1
        have hsz2 : 0 < L.ops2.size := (Array.getElem?_eq_some_iff.1 q1).1
        refine wp_block (wp_seq (wp_region ?_))
        have hrange : List.range L.ops2.size = 0 :: List.range' 1 (L.ops2.size - 1) := by
          rw [List.range_eq_range']
          obtain ⟨z, hz⟩ : ∃ z, L.ops2.size = z + 1 := ⟨L.ops2.size - 1, by omega⟩
          rw [hz, List.range'_succ]; rfl
        rw [hrange]
        refine ops_step (v := .tuple #[e.key, e.val]) (w' := w1) q1 q3 ?_ ?_
        · simp only [execOp, q2]
          refine run_v ?_
          have : a2.eval (.tmp L.tr) = .pointer (some ⟨bi, 0, none⟩) := by
            have h3 := hf2.val L.tr
            rw [Tr.get_set, if_neg L.ktr, Tr.get_set, if_neg L.ntr] at h3
            have h4 := hf.val L.tr
            rw [hptr] at h4
            have h5 : a2.tmps.getD L.tr Go.undef = .pointer (some ⟨bi, 0, none⟩) := by
              unfold holds at hh
              cases ea : asAddr (orUndef (fr.get L.tr)) with
              | none => rw [ea] at hh; cases hh
              | some ad =>
                rw [asAddr_eq ea] at h3 h4
                obtain ⟨u, eu, hu⟩ := h3.ptrE
                obtain ⟨u2, eu2, hu2⟩ := h4.ptrE
                cases eu2
                obtain ⟨B1, b1, _, b3⟩ := hu
                obtain ⟨B2, b4, _, b6⟩ := hu2
                rw [b1] at b4; cases b4
                rw [eu, b3, ← b6]
            exact h5
          rw [this]
          exact run_entry hi1 hm1 m5 (List.mem_filter.1 he).1 (by simp)
        have hf3 : FR κ (((fr.set L.tn (.tuple ⟨[.bool true, x.1, x.2]⟩)).set L.tk (.bool true)).set L.te (.tuple ⟨[x.1, x.2]⟩)) nt (a2.put L.e1.dst (.tuple #[e.key, e.val])).tmps := by
          rw [q4]; exact hf2.set L.lte (VR.tupI (.cons hk (.cons hv .nil)))
        refine rest_ok hcall L.hpre2 hsz2 hf3 hg e1.rel g5 fun μ a4 w4 e4 hf4 hd4 => ?_
        -- the body
        have hg4 : Globs P μ := hg.mono e4.le
        refine wp_mono (Goes.wp (hcode nt L.body μ base fr3 s3 w4 a4 lb hf4 hg4 e4.rel g7)) ?_
        rintro x5 a5 w5 ⟨⟨ex5, fr5, s5⟩, hmem5, hx5, hd5, ν, e5, hf5⟩
        simp only at hx5 e5 hf5
        have e6 : Ext none_ κ base s w1 ν s5 w5 := e4.trans e5
        have e7 : Ext none_ κ0 base sH wH ν s5 w5 := e1.trans e6
        have hmem6 : blockEx L.b2 (ex5, fr5, s5) ∈ lg := by rw [← g8, mapL_eq]; exact List.mem_map.2 ⟨_, hmem5, rfl⟩
        have hd6 : a5.defers = ds := by rw [hd5, hd4, Act.put_defers']; exact hd2
        have hblt1 : bi < w1.heap.size := by omega
        -- the next round
        have again : ∀ (hm7 : ((Ex.normal, fr5, s5) : Ex × Fr × St) ∈ lg), LoopWp P L.code (PostM P nt κ0 base sH wH ds L.bid l) a5 w5 := by
          intro hm7
          obtain ⟨l7, k1, k2⟩ := bindL_eq g4 _ hm7
          have hres := ih rr (seen.push e.born) ν fr5 s5 w5 a5 l7 hf5 (hg.mono e6.le) e7 (hoff.step hblt1 e6) ⟨B, e6.le _ _ hB, hBb, hBs⟩
            (by show w5.heap[bi]? = _; rw [hoff.keeps hblt1 e6]; exact hi1) (hleft2.mono e6.le) hd6 k1
          intro bb k cs
          obtain ⟨ee, aa, ww, ⟨out, ho, hrest⟩, harr⟩ := hres bb k cs
          exact ⟨ee, aa, ww, ⟨out, g2 _ (k2 _ ho), hrest⟩, harr⟩
        -- the loop is left
        have leave : ∀ (ex : Ex) (xx : Exit), exB L.bid (Ex.rec (motive := fun _ => Ex) ex (fun j => cnd (Nat.beq L.bid j) .normal ex) ex ex) xx → ex ≠ .normal → ((ex, fr5, s5) : Ex × Fr × St) ∈ lg → PostM P nt κ0 base sH wH ds L.bid l xx a5 w5 := by
          intro ex xx hb hnn hm7
          obtain ⟨l7, k1, k2⟩ := bindL_eq g4 _ hm7
          cases ex with
          | normal => exact absurd rfl hnn
          | exit j =>
            have k1 : cnd (Nat.beq L.bid j) (some [((Ex.normal, fr5, s5) : Ex × Fr × St)]) (some [(.exit j, fr5, s5)]) = some l7 := k1
            have hb : exB L.bid (cnd (Nat.beq L.bid j) .normal (.exit j)) xx := hb
            rw [cnd_eq] at k1 hb
            split at k1
            · rename_i hc
              rw [if_pos hc] at hb
              cases k1
              exact ⟨_, g2 _ (k2 _ (List.mem_singleton.2 rfl)), hb, hd6, ν, e7, hf5⟩
            · rename_i hc
              rw [if_neg hc] at hb
              cases k1
              exact ⟨_, g2 _ (k2 _ (List.mem_singleton.2 rfl)), hb, hd6, ν, e7, hf5⟩
          | ret =>
            cases k1
            exact ⟨_, g2 _ (k2 _ (List.mem_singleton.2 rfl)), hb, hd6, ν, e7, hf5⟩
        cases ex5 with
        | normal =>
          cases x5 <;> first | exact hx5.elim | skip
          exact again hmem6
        | ret =>
          cases x5 <;> first | exact hx5.elim | skip
          exact leave .ret .ret rfl (by simp) hmem6
        | exit j =>
          cases x5 with
          | exit j2 =>
            have hx5 : j = j2 := hx5
            subst hx5
            have hbe : blockEx L.b2 (Ex.exit j, fr5, s5) = if j = L.b2 then (Ex.normal, fr5, s5) else (Ex.exit j, fr5, s5) := by
              show cnd (Nat.beq L.b2 j) (Ex.normal, fr5, s5) (Ex.exit j, fr5, s5) = _
              rw [cnd_eq]
              by_cases hi : j = L.b2
              · subst hi; simp
              · rw [if_neg hi, if_neg (by rw [Nat.beq_eq]; exact fun e => hi e.symm)]
            rw [hbe] at hmem6
            show (if j = L.b2 then _ else _)
            split
            · rename_i hj
              rw [if_pos hj] at hmem6
              exact again hmem6
            · rename_i hj
              rw [if_neg hj] at hmem6
              refine leave (.exit j) (.exit j) ?_ (by simp) hmem6
              show (if j = L.bid then (cnd (Nat.beq L.bid j) Ex.normal (Ex.exit j)) = .normal else (cnd (Nat.beq L.bid j) Ex.normal (Ex.exit j)) = .exit j)
              rw [cnd_eq]
              by_cases hj2 : j = L.bid
              · subst hj2; simp
              · rw [if_neg hj2, if_neg (by rw [Nat.beq_eq]; exact fun e => hj2 e.symm)]
          | _ => exact hx5.elim
end
end Go.Ev
