/-
  Loops over maps: the whole.
-/
import Derived.Test.YticaodbgdjjgdaaGreatDoorEvRange3
set_option linter.unusedVariables false
set_option linter.unusedSimpArgs false
namespace Go.Ev
open Go (Sem)

theorem exB_block {P : Program} {nt : Nat} {id : Nat} {Q : Exit → Act → World → Prop} {e : Ex} {x : Exit} {a : Act} {w : World} (h : exB id e x) (hn : e = .normal → Q .normal a w) (hx : ∀ j, e = .exit j → j ≠ id → Q (.exit j) a w) (hr : e = .ret → Q .ret a w) : Exit.inBlock id Q x a w := by
  cases x with
  | exit j =>
    have h : if j = id then e = .normal else e = .exit j := h
    show (if j = id then _ else _)
    split at h
    · rename_i hj; rw [if_pos hj]; exact hn h
    · rename_i hj; rw [if_neg hj]; exact hx j h hj
  | ret => exact hr h
  | _ => exact h.elim

theorem rangeAt_eq {ops : Array Oper} {t : TypeId} {x : Operand} {tr : Nat} (h : rangeAt ops = some (t, x, tr)) : ∃ o, ops.back? = some o ∧ o.op = .range t x ∧ o.guard = none ∧ o.dst = some tr := by
  unfold rangeAt at h
  split at h
  · rename_i o ho
    split at h
    · rename_i h1 h2 h3
      cases h
      exact ⟨o, ho, h1, h2, h3⟩
    · cases h
  · cases h
theorem nextAt_eq {ops : Array Oper} {tr tn tk : Nat} (h : nextAt ops tr = some (tn, tk)) : ∃ a b, ops.toList = [a, b] ∧ (a.op = .next (.tmp tr) false ∧ a.guard = none ∧ a.dst = some tn) ∧ (b.op = .extract (.tmp tn) 0 ∧ b.guard = none ∧ b.dst = some tk) := by
  unfold nextAt at h
  split at h
  · rename_i a b hab
    split at h
    · rename_i h1 h2 h3 h4 h5 h6
      split at h
      · rename_i hc
        simp only [Bool.and_eq_true, beq_iff_eq] at hc
        obtain ⟨rfl, rfl⟩ := hc
        cases h
        exact ⟨a, b, hab, ⟨h1, h2, h3⟩, ⟨h4, h5, h6⟩⟩
      · cases h
    · cases h
  · cases h
theorem entryAt_eq {ops : Array Oper} {tr te : Nat} (h : entryAt ops tr = some te) : ∃ a, ops[0]? = some a ∧ a.op = .entry (.tmp tr) ∧ a.guard = none ∧ a.dst = some te := by
  unfold entryAt at h
  split at h
  · rename_i a l hal
    split at h
    · rename_i h1 h2 h3
      split at h
      · rename_i hc
        rw [beq_iff_eq] at hc
        subst hc
        cases h
        exact ⟨a, by rw [← Array.getElem?_toList, hal]; rfl, h1, h2, h3⟩
      · cases h
    · cases h
  · cases h

theorem zipIdx_last {α : Type} : ∀ (l : List α) (k : Nat), (l.zipIdx k).dropLast = l.dropLast.zipIdx k
  | [], _ => rfl
  | [_], _ => rfl
  | x :: y :: l, k => by
    show (x, k) :: ((y :: l).zipIdx (k + 1)).dropLast = (x, k) :: ((y :: l).dropLast).zipIdx (k + 1)
    rw [zipIdx_last (y :: l) (k + 1)]
section
variable {P : Program}

theorem rMap_seq {nt : Nat} {a b : Code} {rb : CCode} {c x y : CCode} (h : rMap P nt a b rb = some c) : c ≠ .seq x y := by
  unfold rMap at h
  split at h
  · split at h
    · split at h
      · cases h; intro e; cases e
      · cases h
    · cases h
  · cases h

theorem map_good : MapGood P := by
  intro E n hcode hcall nt x y c hm ι base fr s w a l hf hg r h
  unfold rMap at hm
  split at hm
  case h_2 => cases hm
  rename_i rid ops bid r1 ops1 tk0 bx b2 r2 ops2 body
  split at hm
  case isFalse => cases hm
  rename_i hbx
  have hbx : bx = bid := by simpa using hbx
  subst hbx
  split at hm
  case h_2 => cases hm
  rename_i m bodyR hml hbd
  cases hm
  -- the body
  have hbody : bodyR = rCode P nt body := by
    have hbd : bodyOf (.block bx (.loop (.seq (rCode P nt (.region r1 ops1 false)) (.seq (rCode P nt (.cond (.tmp tk0) .skip (.exit bx))) (.block b2 ((rMap P nt (.region r2 ops2 false) body (rCode P nt body)).getD (.seq (rCode P nt (.region r2 ops2 false)) (rCode P nt body)))))))) = some bodyR := hbd
    cases hr : rMap P nt (.region r2 ops2 false) body (rCode P nt body) with
    | none => rw [hr] at hbd; cases hbd; rfl
    | some c' =>
      rw [hr] at hbd
      have hns := fun u v => rMap_seq (x := u) (y := v) hr
      cases c' <;> first | (cases hbd; done) | skip
      exact absurd rfl (hns _ _)
  subst hbody
  -- what the loop is made of
  unfold rMapLoop at hml
  split at hml
  · cases hml
  rename_i t x0 tr hra
  split at hml
  case h_2 => cases hml
  rename_i tn tk te pre l2 hnx hen hpre hl2
  split at hml
  case isFalse => cases hml
  rename_i hcond
  cases hml
  simp only [Bool.and_eq_true, beq_iff_eq, bne_iff_ne, ne_eq, decide_eq_true_eq] at hcond
  obtain ⟨⟨⟨⟨⟨⟨⟨⟨hmt, hpx⟩, htk⟩, hntr⟩, hktr⟩, hltr⟩, hltn⟩, hltk⟩, hlte⟩ := hcond
  subst htk
  obtain ⟨o, hback, ho1, ho2, ho3⟩ := rangeAt_eq hra
  obtain ⟨na, nb, hn1, hn2, hn3⟩ := nextAt_eq hnx
  obtain ⟨ea, he1⟩ := entryAt_eq hen
  let L : Loop P E n nt := { ops1 := ops1, ops2 := ops2, body := body, r1 := r1, r2 := r2, tr := tr, tn := tn, tk := tk, te := te, bid := bx, b2 := b2, pre2 := l2, n1 := na, n2 := nb, e1 := ea, ty := t, hops1 := hn1, hn1 := hn2, hn2 := hn3, he1 := he1, hpre2 := hl2, ltr := hltr, ltn := hltn, ltk := hltk, lte := hlte, ntr := hntr, ktr := hktr, kn := trivial }
  have hLc : L.code = .seq (.region r1 ops1 false) (.seq (.cond (.tmp tk) .skip (.exit bx)) (.block b2 (.seq (.region r2 ops2 false) body))) := rfl
  -- the machine's run
  obtain ⟨⟨fr1, s1⟩, h1, h2⟩ := ob_eq.1 (show ob (runOps (one1 (callF E (runC E n))) noRound s.next pre fr (s.skip (newsOf ops.size pre))) (fun y => mapRangeC (rArg x0) tr tn tk bx L.go y.1 y.2) = some l from h)
  simp only at h2
  -- the region in front
  have hsz : 0 < ops.size := by
    rcases Nat.eq_zero_or_pos ops.size with h0 | h0
    · rw [Array.back?_eq_getElem?, h0, Array.getElem?_eq_none (by omega)] at hback; cases hback
    · exact h0
  have hlast : ops[ops.size - 1]? = some o := by rw [← Array.back?_eq_getElem?]; exact hback
  refine wp_seq (wp_region ?_)
  have hrange : List.range ops.size = List.range' 0 (ops.toList.dropLast).length ++ [ops.size - 1] := by
    rw [List.length_dropLast, Array.length_toList (xs := ops)]
    obtain ⟨z, hz⟩ : ∃ z, ops.size = z + 1 := ⟨ops.size - 1, by omega⟩
    rw [hz, List.range_succ, List.range_eq_range', Nat.add_sub_cancel]
  rw [hrange]
  have hpre' : (ops.toList.dropLast.zipIdx 0).mapM (fun (o, i) => rOper P nt ops o i) = some pre := by
    have : ops.toList.zipIdx.dropLast = ops.toList.dropLast.zipIdx 0 := zipIdx_last _ _
    rw [← this]; exact hpre
  have hix := (mapM_ix hpre').2
  have hdl : ops.toList.dropLast.length = ops.size - 1 := by rw [List.length_dropLast, Array.length_toList (xs := ops)]
  refine ops_one (b := s.next) (n := newsOf ops.size pre) (base := base) (ds := a.defers) hcall ops.toList.dropLast 0 (fun j hj => by
      rw [List.getElem?_dropLast, if_pos (by rw [hdl] at hj; rw [Array.length_toList (xs := ops)]; exact hj), Array.getElem?_toList, Nat.zero_add]) pre hpre' ?_ ι fr fr1 (s.skip (newsOf ops.size pre)) s1 w a hf hg
    (by rw [St.skip_eq]; exact (Ext.bump (S := none_) r _).rel) rfl (by rw [St.skip_eq]; simp) ?_ h1 ?_
  · intro c hc hcl
    unfold newsOf
    rw [if_pos (List.any_eq_true.2 ⟨c, hc, by rw [hcl]; rfl⟩)]
    have := hix c hc
    omega
  · intro i _ hi
    rw [St.skip_eq]
    have := r.next (s.next + i) (by omega)
    exact ⟨by simpa using this.1, this.2⟩
  intro κ a1 w1 e0' hf1 hd1
  have e0 : Ext none_ ι base s w κ s1 w1 := e0'.skipped
  have hg1 : Globs P κ := hg.mono e0.le
  have r1' := e0.rel
  -- 'range'
  obtain ⟨q, hq, h3⟩ := ob_eq.1 h2
  have hxv := arg_ok hf1 hg1 hpx
  rw [asMap_eq hq] at hxv
  have hT : ∃ kt et, P.underlying t = some (.map kt et) := by
    unfold isMapT at hmt
    split at hmt
    · rename_i kt et hu; exact ⟨kt, et, hu⟩
    · cases hmt
  obtain ⟨kt, et, hT⟩ := hT
  -- behind 'range': the loop
  have fin : ∀ (obj : Obj) (mo : Side) (es : List (Value × Value)) (sH : St) (lr : List (Ex × Fr × St)) (hrun : (Instr.range t (a1.eval x0)).run P w1 = .ok (.pointer (some ⟨w1.heap.size, 0, none⟩)) { w1 with heap := w1.heap.push obj })
      (hsH : sH.next = s1.next) (rH : Rel κ base sH w1) (hobj : Iter { w1 with heap := w1.heap.push obj } w1.heap.size mo #[]) (hleft : Left κ mo es #[])
      (hmo : ∀ m es' clk, mo = some (m, es', clk) → m < w1.heap.size ∧ Off κ sH m ∧ w1.heap[m]? = some (.map es' clk) ∧ (∀ e ∈ es'.toList, e.born < clk) ∧ (es'.toList.map (·.born)).Nodup)
      (hm : mapRounds tr tn tk s1.next bx L.go (Nat.succ (lenL es)) es (fr1.set tr (ptr s1.next 0)) ((sH.set s1.next .dead).bump 1) = some lr)
      (hout : ∀ out ∈ lr, ∀ μ w', Ext none_ κ base sH w1 μ out.2.2 w' → ∃ out2 ∈ l, out2.1 = out.1 ∧ out2.2.1 = out.2.1 ∧ Ext none_ κ base s1 w1 μ out2.2.2 w'),
      wpOps P ops (Exit.then ((Code.block bx (.loop L.code)).wp P (PostL P nt ι base s w a.defers l)) (PostL P nt ι base s w a.defers l)) [ops.size - 1] a1 w1 := by
    intro obj mo es sH lr hrun hsH rH hobj hleft hmo hm hout
    refine ops_step hlast ho2 (by simp only [execOp, ho1]; exact run_v hrun) ?_
    show (Code.block bx (.loop L.code)).wp P _ _ _
    have hnew : Ext none_ κ base sH w1 (κ.put s1.next ⟨w1.heap.size, 0, 0, 0⟩) ((sH.set s1.next .dead).bump 1) { w1 with heap := w1.heap.push obj } := by
      have := Ext.newDead (S := none_) rH obj
      rw [hsH] at this; exact this
    have hf2 : FR (κ.put s1.next ⟨w1.heap.size, 0, 0, 0⟩) (fr1.set tr (ptr s1.next 0)) nt (a1.put o.dst (.pointer (some ⟨w1.heap.size, 0, none⟩))).tmps := by
      rw [ho3]
      exact (hf1.mono hnew.le).set hltr (.ptr (a' := ⟨w1.heap.size, 0, none⟩) ⟨_, Inj.put_same _ _ _, rfl, rfl⟩)
    have hoff : Off (κ.put s1.next ⟨w1.heap.size, 0, 0, 0⟩) ((sH.set s1.next .dead).bump 1) w1.heap.size := by
      intro a o B ha hl hB
      rw [St.get_bump, St.get_set] at ha
      by_cases he : s1.next = a
      · rw [if_pos he] at ha; cases ha; cases hl
      · rw [if_neg he] at ha
        rw [Inj.put_ne _ _ (fun h => he h.symm)] at hB
        have := rH.blk a B hB
        omega
    have hloop := rounds_ok L hcode hcall (κ0 := κ) (base := base) (sH := sH) (wH := w1) (ds := a.defers) (it := s1.next) (bi := w1.heap.size) (mo := mo) (Nat.le_refl _) hmo (Nat.succ (lenL es)) es #[] _ _ _ _ _ lr hf2 (hg1.mono hnew.le) hnew hoff
      ⟨_, Inj.put_same _ _ _, rfl, rfl⟩ hobj (hleft.mono hnew.le) (by rw [Act.put_defers']; exact hd1) hm
    refine wp_block (wp_mono (LoopWp.wp hloop) ?_)
    rintro xx a' w' ⟨out, hmem, hex, hd, μ, e2, hf3⟩
    obtain ⟨⟨ex2, f2, s2⟩, hm2, p1, p2, e3⟩ := hout out hmem μ w' e2
    simp only at p1 p2 e3
    subst p1
    have hpost : ∀ xx, exR out.1 xx → PostL P nt ι base s w a.defers l xx a' w' := fun xx hx => ⟨(out.1, f2, s2), hm2, hx, hd, μ, e0.trans e3, by rw [p2]; exact hf3⟩
    exact exB_block (nt := nt) (P := P) hex (fun he => hpost _ (by rw [he]; trivial)) (fun j he _ => hpost _ (by rw [he]; rfl)) (fun he => hpost _ (by rw [he]; trivial))
  cases q with
  | none =>
    have hv : a1.eval x0 = .map none := by
      rcases hxv.mapE with ⟨_, h⟩ | ⟨_, _, h, _⟩
      · exact h
      · cases h
    have h4 : mapRounds tr tn tk s1.next bx L.go 1 [] (fr1.set tr (ptr s1.next 0)) ((s1.set s1.next .dead).bump 1) = some l := h3
    refine fin (.mapIter none 0 #[] 0) none [] s1 l ?_ rfl r1' ⟨0, 0, #[], by simp⟩ rfl (fun m es' clk h => by cases h) h4 (fun out ho μ w' e => ⟨out, ho, rfl, rfl, e⟩)
    rw [hv]
    simp [Instr.range, run_underlying hT, newObj, Sem.run, Result.andThen]
  | some q =>
    obtain ⟨en, hen, h4⟩ := ob_eq.1 (show ob (asEnts (s1.get q)) (fun e => ob (rangeIn tr fr1 (s1.set q .dead) fun fr s' => mapRounds tr tn tk s1.next bx L.go (Nat.succ (lenL e.1)) e.1 fr s') fun l => optL (restore q e.1 e.2) l) = some l from h3)
    obtain ⟨lr, h5, h6⟩ := ob_eq.1 (show ob (mapRounds tr tn tk s1.next bx L.go (Nat.succ (lenL en.1)) en.1 (fr1.set tr (ptr s1.next 0)) (((s1.set q .dead).set s1.next .dead).bump 1)) (fun l => optL (restore q en.1 en.2) l) = some l from h4)
    obtain ⟨q', B, hqq, hB, hv⟩ : ∃ q' B, some q = some q' ∧ κ q' = some B ∧ a1.eval x0 = .map (some B.b) := by
      rcases hxv.mapE with ⟨h, _⟩ | ⟨q', B, h1, h2, h3⟩
      · cases h
      · exact ⟨q', B, h1, h2, h3⟩
    cases hqq
    have hget := asEnts_eq hen
    obtain ⟨B', hB', es', clk', hheap, hents⟩ := r1'.ob q _ hget rfl
    rw [hB] at hB'; cases hB'
    obtain ⟨hka, ⟨p, hperm, her⟩, hnd⟩ := hents
    have hqn : q ≠ s1.next := by
      intro e
      rw [e, (r1'.next s1.next (Nat.le_refl _)).1] at hget; cases hget
    have hborn : ∀ e ∈ es'.toList, e.born < clk' := by
      have key : ∀ {p : List (Value × Value)} {m : List MapEntry}, ER κ clk' p m → ∀ e ∈ m, e.born < clk' := by
        intro p m h
        induction h with
        | nil => simp
        | cons _ _ h3 _ ih =>
          intro e he
          rcases List.mem_cons.1 he with rfl | he
          · exact h3
          · exact ih e he
      exact key her
    -- the map is put aside
    have rH : Rel κ base (s1.set q .dead) w1 := (Ext.drop (S := none_) r1' q _ B hget rfl hB).rel
    have hoffm : Off κ (s1.set q .dead) B.b := by
      intro a o Ba ha hl hBa he
      rw [St.get_set] at ha
      by_cases hh : q = a
      · rw [if_pos hh] at ha; cases ha; cases hl
      · rw [if_neg hh] at ha
        exact r1'.sep q a _ o B Ba hget ha hh rfl hl hB hBa he.symm
    refine fin (.mapIter (some B.b) clk' #[] clk') (some (B.b, es', clk')) en.1 (s1.set q .dead) lr ?_ (by simp) rH ?_ ⟨p, hperm, ?_⟩ ?_ h5 ?_
    · rw [hv]
      simp [Instr.range, run_underlying hT, newObj, Sem.run, Result.andThen, run_getObj_map hheap]
    · show (w1.heap.push _)[w1.heap.size]? = _
      simp
    · have : leftOf es' #[] = es'.toList := by
        unfold leftOf
        rw [List.filter_eq_self]
        intro e _
        simp
      rw [this]; exact her
    · intro m e2 c2 heq
      cases heq
      exact ⟨r1'.blk q B hB, hoffm, hheap, hborn, hnd⟩
    · intro out hmem μ w' e2
      obtain ⟨out2, hm2, hres⟩ := optL_mem h6 out hmem
      obtain ⟨hdead, hres2⟩ := must_eq.1 hres
      cases hres2
      refine ⟨_, hm2, rfl, rfl, Ext.restored r1' hget hB e2 fun o ho => ?_⟩
      rw [ho] at hdead
      have hdead : (!live o) = true := hdead
      simpa using hdead
end
end Go.Ev
