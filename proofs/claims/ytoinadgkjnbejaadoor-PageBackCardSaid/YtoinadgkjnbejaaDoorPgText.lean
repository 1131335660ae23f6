/-
  The text of lines: strings.Builder.
-/
import Derived.Test.YtoinadgkjnbejaaDoorPgBase
import Derived.Test.YtoinadgkjnbejaaDoorPgPure4
set_option linter.unusedVariables false
set_option linter.unusedSimpArgs false
namespace Go.Ev
noncomputable section
open Go.Pg
def Bys (s : St) (lo T : Nat) (v : Value) (l : Ln) : Prop := (v = .slice none 0 0 ∧ l = []) ∨ ∃ b, v = sl b l.length ∧ lo ≤ b ∧ b < s.next ∧ s.get b = some (.cells (l.map ofByte) (tag T 1) .gr) ∧ l ≠ []
section
variable {s t u : St} {lo T : Nat} {v : Value} {l : Ln}
theorem Bys.len (h : Bys s lo T v l) : ∃ p c, v = .slice p l.length c := by
  rcases h with ⟨rfl, rfl⟩ | ⟨b, rfl, _⟩
  · exact ⟨_, _, rfl⟩
  · exact ⟨_, _, rfl⟩
theorem bys_append (h : Bys s lo T v l) (hlo : lo ≤ s.next) {x : Ln} (hx : x ≠ []) (hr : l.length + x.length ≤ room) :
    ∃ v' s', appendOp (tag T 1) 1 1 s v (strOf x) = some (v', s') ∧ Bys s' lo T v' (l ++ x) ∧ Low lo s s' ∧ s'.next = s.next + 1 := by
  have e0 : appendOp (tag T 1) 1 1 s v (strOf x) = appendNew (tag T 1) 1 1 s v x.length (x.map ofByte) := by
    show ob (lenOf (strOf x)) (fun n => ob (s.elems 1 (strOf x) n) fun new => appendNew (tag T 1) 1 1 s v n new) = _
    rw [lenOf_str, ob_some, elems_str, ob_some]
  have hb0 : Nat.beq x.length 0 = false := by
    cases e : Nat.beq x.length 0 with
    | false => rfl
    | true => rw [Nat.beq_eq] at e; exact absurd (List.length_eq_zero_iff.1 e) hx
  rw [e0]
  rcases h with ⟨rfl, rfl⟩ | ⟨b, rfl, h1, h2, h3, h4⟩
  · refine ⟨sl s.next x.length, s.made (x.map ofByte) (tag T 1) .gr, ?_, .inr ⟨s.next, rfl, hlo, ?_, ?_, hx⟩, (Low.refl hlo).made _ _ _, next_made _ _ _ _⟩
    · show cnd (Nat.beq x.length 0) _ (must (Nat.ble ((0 + x.length) * 1) room) (some (sl s.next (0 + x.length), s.made (x.map ofByte) (tag T 1) .gr))) = _
      rw [hb0, cnd_false, Nat.ble_eq_true_of_le (by simpa using hr), must_true, Nat.zero_add]
    · rw [next_made]; omega
    · rw [get_made, if_pos rfl]; rfl
  · refine ⟨sl s.next (l.length + x.length), (s.set b .dead).made (l.map ofByte ++ x.map ofByte) (tag T 1) .gr, ?_, .inr ⟨s.next, by rw [List.length_append], hlo, ?_, ?_, by simp [hx]⟩, ((Low.refl hlo).set h1 _).made _ _ _, next_made _ _ _ _⟩
    · show cnd (Nat.beq x.length 0) _ (must (Nat.ble ((l.length + x.length) * 1) room) (cnd (Nat.beq open_ open_) (ob (asCells (s.get b)) fun c => cnd (Nat.beq (0 + l.length * 1) (lenL c.1)) (appendEnd s (tag T 1) 1 ⟨b, 0, none⟩ (l.length + x.length) (x.map ofByte) c.1 c.2.1 c.2.2) _) _)) = _
      rw [hb0, cnd_false, Nat.ble_eq_true_of_le (by omega), must_true, Nat.beq_refl, cnd_true, h3]
      show cnd (Nat.beq (0 + l.length * 1) (lenL (l.map ofByte))) (must (Md.grows .gr) (must (Nat.beq (esz (tag T 1)) 1) (some (sl s.next (l.length + x.length), (s.set b .dead).made (appL (dropL 0 (l.map ofByte)) (x.map ofByte)) (cnd (Nat.beq (tag T 1) (tag T 1)) (tag T 1) 1) .gr)))) _ = _
      rw [lenL_eq, List.length_map, Nat.zero_add, Nat.mul_one, Nat.beq_refl, cnd_true, esz_tag (by decide), Nat.beq_refl, Nat.beq_refl, cnd_true]
      simp only [appL_eq, dropL_eq, List.drop_zero]
      rfl
    · rw [next_made]; show s.next < s.next + 1; omega
    · rw [get_made, List.map_append]; exact if_pos rfl
theorem Bys.low (h : Bys s lo T v l) {lo' : Nat} (k : Low lo' s t) (hh : s.next ≤ lo') : Bys t lo T v l := by
  rcases h with h | ⟨b, h0, h1, h2, h3, h4⟩
  · exact .inl h
  · exact .inr ⟨b, h0, h1, Nat.lt_of_lt_of_le h2 k.2.1, by rw [k.2.2 b (by omega)]; exact h3, h4⟩
def Bld (t : St) (r lo : Nat) (l : Ln) : Prop := r < lo ∧ lo ≤ t.next ∧ ∃ a v, t.get r = some (.cells [a, v] (tag 88 0) .ex) ∧ (a = .pointer none ∨ a = ptr r 0) ∧ Bys t lo 5 v l
theorem get_cell {r : Nat} {cs : List Value} {es : Nat} {md : Md} (h : s.get r = some (.cells cs es md)) (i : Nat) : s.cell ⟨r, i, none⟩ = cs[i]? := by
  show ob (asCells (s.get r)) _ = _
  rw [h]
  exact nthL_eq _ _
theorem get_put {r o : Nat} {cs vs : List Value} {es : Nat} (h : s.get r = some (.cells cs es .ex)) (hl : o + vs.length ≤ cs.length) : s.put ⟨r, o, none⟩ vs = some (s.set r (.cells (splice cs o vs) es .ex)) := by
  show ob (asCells (s.get r)) (fun c => must c.2.2.writes (must (Nat.ble (o + lenL vs) (lenL c.1)) (some (s.set r (.cells (splice c.1 o vs) c.2.1 c.2.2))))) = _
  rw [h]
  show must true (must (Nat.ble (o + lenL vs) (lenL cs)) _) = _
  rw [must_true, lenL_eq, lenL_eq, Nat.ble_eq_true_of_le hl, must_true]
end
section
variable {E : Env} {f : FuncId} {s t u : St}
theorem nilOk_p (a : Addr) : nilOk (.pointer (some a)) = true := rfl
theorem stor_p (a : Option Addr) : storable (.pointer a) = true ∧ vcells (.pointer a) = [.pointer a] ∧ Nat.beq (lenL [Value.pointer a]) 1 = true := ⟨rfl, rfl, rfl⟩
theorem st_toUnsafe {call : Caller} {fr : Fr} {id : Nat} (x : Arg) : (oneOp (.toUnsafe x)).run call noRound fr s id = ob (asPtr (x.ev fr)) fun p => Option.rec (some (x.ev fr, s)) (fun a => om (s.cell a) fun _ => (x.ev fr, s)) p := rfl
theorem st_ofUnsafe {call : Caller} {fr : Fr} {id : Nat} (T n : Nat) (x : Arg) : (oneOp (.ofUnsafe T n x)).run call noRound fr s id = ob (asPtr (x.ev fr)) fun p => Option.rec (some (x.ev fr, s)) (fun a => must (Nat.beq a.off 0) (must (isEx (s.get a.block)) (ob (asCells (s.get a.block)) fun c => must (Nat.beq (ety c.2.1) (Nat.succ T)) (must (Nat.beq (lenL c.1) n) (some (x.ev fr, s)))))) p := rfl
theorem st_sliceData {call : Caller} {fr : Fr} {id : Nat} (x : Arg) : (oneOp (.sliceData x)).run call noRound fr s id = ob (asSl (x.ev fr)) fun p => Option.rec (some (.pointer none, s)) (fun a => must (cnd (Nat.beq p.2.2 open_) (!Nat.beq p.2.1 0) (!Nat.beq p.2.2 0)) (some (.pointer (some a), s))) p.1 := rfl
theorem st_unsafeStr {call : Caller} {fr : Fr} {id : Nat} (T : Nat) (p n : Arg) : (oneOp (.unsafeStr T p n)).run call noRound fr s id = ob (asPtr (p.ev fr)) fun p => ob (asNat (n.ev fr)) fun n =>
  cnd (Nat.beq n 0) (some (strOf [], s)) (must (Nat.ble n room) (ob p fun a => ob (asCells (s.get a.block)) fun c => must (Nat.beq (ety c.2.1) (Nat.succ T)) (frozenAs s a n c))) := rfl
theorem isEx_c (cs : List Value) (es : Nat) : isEx (some (Ob.cells cs es .ex)) = true := rfl
theorem asCells_c (cs : List Value) (es : Nat) (md : Md) : asCells (some (Ob.cells cs es md)) = some (cs, es, md) := rfl
theorem copyCheck_run (P : Prims E) (hf : Has E f Code._strings_Builder_copyCheck) {r : Nat} {a v : Value} (h : t.get r = some (.cells [a, v] (tag 88 0) .ex)) (ha : a = .pointer none ∨ a = ptr r 0) :
    Cv E f [ptr r 0] t fun _ t' => t'.get r = some (.cells [ptr r 0, v] (tag 88 0) .ex) ∧ t'.next = t.next ∧ ∀ b, b ≠ r → t'.get b = t.get b := by
  refine Cv_of hf.code ?_
  have h0 : (Tr.ofList (.e : Fr) 0 [ptr r 0]).get 0 = some (ptr r 0) := rfl
  generalize (Tr.ofList (.e : Fr) 0 [ptr r 0]) = fr0 at h0
  unfold Code._strings_Builder_copyCheck
  have c0 : t.cell ⟨r, 0, none⟩ = some a := get_cell h 0
  rcases ha with rfl | rfl
  · refine W_seq (W_region (by simp only [simq, Int.reduceEq, Nat.reduceEqDiff, h0, nilOk_p, c0, st_eqPtrNil]; rfl) (W_then (by simp only [simq, Int.reduceEq, Nat.reduceEqDiff]) ?_))
    have hp : t.put ⟨r, 0, none⟩ [.pointer (some ⟨r, 0, none⟩)] = some (t.set r (.cells [ptr r 0, v] (tag 88 0) .ex)) := get_put h (by simp)
    have hl2 : Nat.beq (lenL [Value.pointer none, v]) 2 = true := rfl
    have he : Nat.beq (ety (tag 88 0)) (Nat.succ 88) = true := by decide
    have hpS : ∀ (x : Value) (u : St), pSame [x] u = some (x, u) := fun _ _ => rfl
    refine W_opsM (Wo_all (by simp only [simq, Int.reduceEq, Nat.reduceEqDiff, h0, st_toUnsafe, st_ofUnsafe, c0, pc_some P.noEsc, hpS, h, isEx_c, asCells_c, Nat.beq_refl, hl2, he, nilOk_p, stor_p, hp]; rfl) ⟨rfl, [], rfl, ?_, St.next_set _ _ _, fun b hb => St.get_set_ne _ _ (Ne.symm hb)⟩)
    exact St.get_set_same _ _ _
  · refine W_seq (W_region (by simp only [simq, Int.reduceEq, Nat.reduceEqDiff, h0, nilOk_p, c0, st_eqPtrNil]; rfl) (W_else (by simp only [simq, Int.reduceEq, Nat.reduceEqDiff]) ?_))
    have hx : isEx (t.get r) = true := by rw [h]; rfl
    refine W_seq (W_region (by simp only [simq, Int.reduceEq, Nat.reduceEqDiff, h0, nilOk_p, c0, st_eqPtr, eqAddr, hx, Nat.beq_refl]; rfl) (W_else (by simp only [simq, Int.reduceEq, Nat.reduceEqDiff]; rfl) (W_skip ?_)))
    exact ⟨rfl, [], rfl, h, rfl, fun b _ => rfl⟩
set_option maxHeartbeats 2000000 in
theorem WriteString_run (hC : Codes E) (P : Prims E) (hf : Has E f Code._strings_Builder_WriteString) {r lo : Nat} {l x : Ln} (h : Bld t r lo l) (hx : x ≠ []) (hr : l.length + x.length ≤ room) :
    Cv E f [ptr r 0, strOf x] t fun _ t' => Bld t' r lo (l ++ x) ∧ t.next ≤ t'.next ∧ ∀ b, b < lo → b ≠ r → t'.get b = t.get b := by
  obtain ⟨hrl, hlo, a, v, hg, ha, hv⟩ := h
  refine Cv_of hf.code ?_
  have h0 : (Tr.ofList (.e : Fr) 0 [ptr r 0, strOf x]).get 0 = some (ptr r 0) := rfl
  have h1 : (Tr.ofList (.e : Fr) 0 [ptr r 0, strOf x]).get 1 = some (strOf x) := rfl
  generalize (Tr.ofList (.e : Fr) 0 [ptr r 0, strOf x]) = fr0 at h0 h1
  unfold Code._strings_Builder_WriteString
  refine W_seq (W_region (by simp only [simq, Int.reduceEq, Nat.reduceEqDiff]; rfl) ?_)
  refine W_seq (W_opsM (Wo_run (by simp only [simq, Int.reduceEq, Nat.reduceEqDiff, h0]; rfl) (Wo_call hC._strings_Builder_copyCheck.prim (args := [ptr r 0]) (by simp only [simq, Int.reduceEq, Nat.reduceEqDiff]; try rfl) ((copyCheck_run P hC._strings_Builder_copyCheck (t := t) hg ha).mono ?_))))
  rintro _ t1 ⟨g1, n1, f1⟩
  refine Wo_all rfl ?_
  show W E _ _ _ _
  have hv1 : Bys t1 lo 5 v l := by
    rcases hv with hv | ⟨b, e0, e1, e2, e3, e4⟩
    · exact .inl hv
    · exact .inr ⟨b, e0, e1, by omega, by rw [f1 b (by omega)]; exact e3, e4⟩
  have c1 : t1.cell ⟨r, 1, none⟩ = some v := get_cell g1 1
  obtain ⟨v', t2, e2, g2, L2, n2⟩ := bys_append hv1 (by omega) hx hr
  have gr2 : t2.get r = some (.cells [ptr r 0, v] (tag 88 0) .ex) := by rw [L2.2.2 r hrl]; exact g1
  have hp : t2.put ⟨r, 1, none⟩ [v'] = some (t2.set r (.cells [ptr r 0, v'] (tag 88 0) .ex)) := get_put gr2 (by simp)
  obtain ⟨q, c, rfl⟩ := g2.len
  have hst : storable (.slice q (l ++ x).length c) = true ∧ vcells (.slice q (l ++ x).length c) = [.slice q (l ++ x).length c] ∧ Nat.beq (lenL [Value.slice q (l ++ x).length c]) 1 = true := ⟨rfl, rfl, rfl⟩
  refine W_seq (W_region (by simp only [simq, Int.reduceEq, Nat.reduceEqDiff, h0, h1, nilOk_p, c1, e2, hst.1, hst.2.1, hst.2.2, hp]; rfl) ?_)
  refine W_seq (W_region (by simp only [simq, Int.reduceEq, Nat.reduceEqDiff, h1]; rfl) ?_)
  refine W_ret ⟨rfl, _, res_tmp (res_tmp res_nil), ⟨hrl, ?_, ptr r 0, _, St.get_set_same _ _ _, .inr rfl, ?_⟩, ?_, fun b hb hne => ?_⟩
  · rw [St.next_set]; omega
  · rcases g2 with ⟨g2, g3⟩ | ⟨b, e0, e1, e2, e3, e4⟩
    · exact .inl ⟨g2, g3⟩
    · exact .inr ⟨b, e0, e1, by rw [St.next_set]; exact e2, by rw [St.get_set_ne _ _ (by omega)]; exact e3, e4⟩
  · rw [St.next_set]; omega
  · rw [St.get_set_ne _ _ (Ne.symm hne), L2.2.2 b hb, f1 b hne]
set_option maxHeartbeats 2000000 in
theorem BString_run (hf : Has E f Code._strings_Builder_String) {r lo : Nat} {l : Ln} (h : Bld t r lo l) (hr : l.length ≤ room) : Cv E f [ptr r 0] t fun v t' => v = strOf l ∧ t.next ≤ t'.next ∧ ∀ b, b < lo → t'.get b = t.get b := by
  obtain ⟨hrl, hlo, a, v, hg, ha, hv⟩ := h
  refine Cv_of hf.code ?_
  have h0 : (Tr.ofList (.e : Fr) 0 [ptr r 0]).get 0 = some (ptr r 0) := rfl
  generalize (Tr.ofList (.e : Fr) 0 [ptr r 0]) = fr0 at h0
  unfold Code._strings_Builder_String
  refine W_seq (W_region (by simp only [simq, Int.reduceEq, Nat.reduceEqDiff]; rfl) ?_)
  have c1 : t.cell ⟨r, 1, none⟩ = some v := get_cell hg 1
  rcases hv with ⟨rfl, rfl⟩ | ⟨b, rfl, e1, e2, e3, e4⟩
  · have hn : asNat (.int .i64 (Int.ofNat 0)) = some 0 := rfl
    refine W_seq (W_region (by simp only [simq, Int.reduceEq, Nat.reduceEqDiff, h0, nilOk_p, c1, st_sliceData, st_unsafeStr, hn, Nat.beq_refl]; rfl) (W_ret ⟨rfl, _, res_tmp res_nil, ?_, Nat.le_refl _, fun b _ => rfl⟩))
    simp only [simq, Int.reduceEq, Nat.reduceEqDiff, tupled]; try rfl
  · have hne : Nat.beq l.length 0 = false := by
      cases e : Nat.beq l.length 0 with
      | false => rfl
      | true => rw [Nat.beq_eq] at e; exact absurd (List.length_eq_zero_iff.1 e) e4
    have hn : asNat (.int .i64 (Int.ofNat l.length)) = some l.length := rfl
    have hb : Nat.ble l.length room = true := Nat.ble_eq_true_of_le hr
    have hty : Nat.beq (ety (tag 5 1)) (Nat.succ 5) = true := by decide
    have hfz : frozenAs t ⟨b, 0, none⟩ l.length (l.map ofByte, tag 5 1, Md.gr) = some (strOf l, t.set b (.cells (l.map ofByte) (tag 5 1) .fz)) := by
      show must true (must (Nat.ble (0 + l.length) (lenL (l.map ofByte))) (om (optL toByte (takeL l.length (dropL 0 (l.map ofByte)))) fun l' => (strOf l', t.set b (.cells (l.map ofByte) (tag 5 1) .fz)))) = _
      rw [must_true, lenL_eq, List.length_map, Nat.zero_add, Nat.ble_eq_true_of_le (Nat.le_refl _), must_true, dropL_eq, takeL_eq, List.drop_zero, List.take_of_length_le (by simp), optByte_of]
      rfl
    refine W_seq (W_region (by simp only [simq, Int.reduceEq, Nat.reduceEqDiff, h0, nilOk_p, c1, st_sliceData, st_unsafeStr, hn, hne, hb, e3, asCells_c, hty, hfz, Nat.beq_refl]; rfl) (W_ret ⟨rfl, _, res_tmp res_nil, ?_, ?_, fun c hc => ?_⟩))
    · simp only [simq, Int.reduceEq, Nat.reduceEqDiff, tupled]; try rfl
    · rw [St.next_set]; exact Nat.le_refl _
    · rw [St.get_set_ne _ _ (by omega)]
set_option maxHeartbeats 4000000 in
theorem text_run (hC : Codes E) (P : Prims E) (hf : Has E f Code.page_text) {hi : Nat} {v : Value} {ls : List Ln} (hhi : hi ≤ s.next) (hv : Texts s hi v ls) (hn : ls.length ≤ 30000000) (hx : ∀ x ∈ ls, x.length ≤ 1000000) : Cv E f [v] s fun r t => r = strOf (joinL ls) ∧ Low s.next s t := by
  obtain ⟨p, m, c, rfl, hm⟩ := hv.parts
  rw [List.length_map, Nat.mul_one] at hm
  subst hm
  refine Cv_of hf.code ?_
  have h0 : (Tr.ofList (.e : Fr) 0 [.slice p ls.length c]).get 0 = some (.slice p ls.length c) := rfl
  generalize (Tr.ofList (.e : Fr) 0 [.slice p ls.length c]) = fr0 at h0
  unfold Code.page_text
  refine W_seq (W_region (by simp only [simq, Int.reduceEq, Nat.reduceEqDiff]; rfl) ?_)
  have m1 := next_skip s 1
  refine W_seq (W_ops (Wo_all (fr' := fr0.set 2 (strOf []) |>.set 3 (ptr s.next 0)) (s' := (s.skip 1).set s.next (.cells [.pointer none, .slice none 0 0] (tag 88 0) .ex)) rfl ?_))
  show W E _ _ _ _
  have B1 : Bld ((s.skip 1).set s.next (.cells [.pointer none, .slice none 0 0] (tag 88 0) .ex)) s.next (s.next + 1) [] := ⟨by omega, by rw [St.next_set]; omega, _, _, St.get_set_same _ _ _, .inl rfl, .inl ⟨rfl, rfl⟩⟩
  have L1 : Low s.next s ((s.skip 1).set s.next (.cells [.pointer none, .slice none 0 0] (tag 88 0) .ex)) := ((Low.self s).skip 1).set (Nat.le_refl _) _
  generalize ((s.skip 1).set s.next (.cells [.pointer none, .slice none 0 0] (tag 88 0) .ex)) = s1 at *
  refine W_seq (W_seq (W_region (by simp only [simq, Int.reduceEq, Nat.reduceEqDiff, h0]; rfl) (W_block ?_)))
  have htot : ∀ i, (joinL (ls.take i)).length ≤ 1000001 * i := by
    intro i
    have : ∀ l : List Ln, (∀ x ∈ l, x.length ≤ 1000000) → (joinL l).length ≤ 1000001 * l.length := by
      intro l
      induction l with
      | nil => intro _; simp [joinL]
      | cons y r ih =>
        intro h
        have h1 := ih fun x hx => h x (List.mem_cons_of_mem _ hx)
        have h2 := h y (List.mem_cons_self ..)
        rw [joinL]
        simp only [List.length_append, List.length_cons] at *
        omega
    have h1 := this (ls.take i) fun x hx' => hx x (List.mem_of_mem_take hx')
    have h2 : (ls.take i).length ≤ i := by simp; omega
    have := Nat.mul_le_mul_left 1000001 h2
    omega
  unfold Code.page_text_l0
  refine W_for (n := ls.length) (fun i fr t => Bld t s.next (s.next + 1) (joinL (ls.take i)) ∧ Low s.next s t ∧ fr.get 3 = some (ptr s.next 0) ∧ fr.get 6 = some (.slice p ls.length c)) (by omega) (by decide) ?_ ?_ ?_ 0 (Nat.zero_le _) ⟨B1, L1, by simp only [simq, Int.reduceEq, Nat.reduceEqDiff], by simp only [simq, Int.reduceEq, Nat.reduceEqDiff, h0]⟩ (by simp only [simq, Int.reduceEq, Nat.reduceEqDiff]; rfl) (by simp only [simq, Int.reduceEq, Nat.reduceEqDiff]; rfl)
  · rintro i fr t x v hx ⟨e0, e1, e2, e3⟩
    refine ⟨e0, e1, ?_, ?_⟩ <;> rcases hx with rfl | rfl | rfl <;> simp only [simq, Int.reduceEq, Nat.reduceEqDiff, e2, e3]
  · rintro i fr t hlt ⟨B, L, k3, k6⟩ k8 k7
    obtain ⟨a, rfl, hca⟩ := Sl.cell (hv.low L hhi) (i := i) (by rw [List.length_map]; omega)
    rw [List.getElem?_map, List.getElem?_eq_getElem hlt, Option.map_some] at hca
    have t1 : ls.take (i + 1) = ls.take i ++ [ls[i]] := List.take_succ_eq_append_getElem hlt
    have hb1 : Nat.blt i ls.length = true := by rw [Nat.blt_eq]; exact hlt
    have hxl := hx _ (List.getElem_mem hlt)
    have ht := htot i
    have ht2 : 1000001 * i ≤ 1000001 * 30000000 := Nat.mul_le_mul_left _ (by omega)
    generalize ls[i] = x at *
    refine W_seq (W_region (by simp only [simq, Int.reduceEq, Nat.reduceEqDiff, k6, k8, hb1, hca]; rfl) ?_)
    have hadd : binOp .add (strOf x) (strOf [10]) = some (strOf (x ++ [10])) := bin_addS _ _ (by simp; omega)
    refine W_opsM (Wo_run (by simp only [simq, Int.reduceEq, Nat.reduceEqDiff, hadd]; rfl) (Wo_call hC._strings_Builder_WriteString.prim (args := [ptr s.next 0, strOf (x ++ [10])]) (by simp only [simq, Int.reduceEq, Nat.reduceEqDiff, k3]; try rfl) ((WriteString_run hC P hC._strings_Builder_WriteString (t := t) B (x := x ++ [10]) (by simp) (by rw [List.length_append]; simp only [List.length_cons, List.length_nil]; unfold room; omega)).mono ?_)))
    rintro _ t2 ⟨B2, n2, f2⟩
    refine Wo_all rfl ⟨⟨?_, ⟨Nat.le_refl _, Nat.le_trans L.2.1 n2, fun b hb => (f2 b (by omega) (by omega)).trans (L.2.2 b hb)⟩, by simp only [simq, Int.reduceEq, Nat.reduceEqDiff, k3], by simp only [simq, Int.reduceEq, Nat.reduceEqDiff, k6]⟩, by simp only [simq, Int.reduceEq, Nat.reduceEqDiff, k8], by simp only [simq, Int.reduceEq, Nat.reduceEqDiff, k7]⟩
    rw [t1, joinL_append]
    simpa [joinL] using B2
  · rintro fr t ⟨B, L, k3, k6⟩
    rw [List.take_length] at B
    have ht := htot ls.length
    rw [List.take_length] at ht
    have ht2 : 1000001 * ls.length ≤ 1000001 * 30000000 := Nat.mul_le_mul_left _ (by omega)
    show W E _ _ _ _
    refine W_seq (W_opsM (Wo_call hC._strings_Builder_String.prim (args := [ptr s.next 0]) (by simp only [simq, Int.reduceEq, Nat.reduceEqDiff, k3]; try rfl) ((BString_run hC._strings_Builder_String (t := t) B (by unfold room; omega)).mono ?_)))
    rintro _ t2 ⟨rfl, n2, f2⟩
    refine Wo_all (by simp only [simq, Int.reduceEq, Nat.reduceEqDiff]; rfl) ?_
    show W E _ _ _ _
    refine W_ret ⟨rfl, _, res_tmp res_nil, by simp only [simq, Int.reduceEq, Nat.reduceEqDiff, tupled], ⟨Nat.le_refl _, Nat.le_trans L.2.1 n2, fun b hb => (f2 b (by omega)).trans (L.2.2 b hb)⟩⟩
end
end
end Go.Ev
